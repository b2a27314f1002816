/- What the checks of a program look at in a block's jump, and in the first function's locals. -/
import Derived.Test.YtglmonlofejcgaaGreatDoorPgA
set_option maxHeartbeats 8000000
set_option maxRecDepth 100000
open List renaming setIfInBounds_toArray → apu, set_cons_zero → apv, set_cons_succ → apw, getElem?_eq_getElem → apx, getElem?_map → apy, getD_eq_getElem?_getD → apz, mem_of_getElem? → apC
open Array renaming getElem?_eq_some_iff → apA
open Nat renaming le_refl → apB, lt_of_lt_of_le → apD
open Int renaming toNat_natCast → apE
set_option linter.unusedVariables false
namespace Go.Proofs.YtglmonlofejcgaaGreatDoor
namespace prg
open Go.RowKit Am loan bld
abbrev tJm : TypeId := 58
theorem jmR : (Tryz.prog.info? 58).map (·.size) = some 13 := by kernel_rfl
def noF : FnD := ⟨0, false, .bool false, .bool false, [], [], ⟨.slice none 0 0, []⟩⟩
def nD (Ds : List FnD) (b : bK) : Bool := !decide (ah b.pre 0 = 4) || (decide (ah b.pre 6 < Ds.length) && decide ((b.ops.length : Int) = (Ds.getD (ah b.pre 6).toNat noF).p))
theorem Yi {w : World} {b : bK} (h : jY w b) : ∃ (A : Option Addr) (c : Nat) (x0 x1 : Int) (x2 x3 : Int) (b4 : Bool) (x5 x6 x7 x8 : Int) (B : Option Addr) (d : Nat) (y0 : Int) (y1 : Bool) (y2 : Int), b.s = .slice A b.st.length c /\ b.pre = [.int .u8 x0, .int .u8 x1, .int .i64 x2, .int .i64 x3, .bool b4, .int .u8 x5, .int .i64 x6, .int .i64 x7, .int .i64 x8] /\ b.a = .slice B b.ops.length d /\ b.post = [.int .i64 y0, .bool y1, .int .u8 y2] := by
 obtain ⟨A, c, e, _⟩ := jY.X6 h
 obtain ⟨B, d, e2, _⟩ := cZ.rows h.opl (by decide)
 obtain ⟨v0, l0, q0, ⟨x0, rfl, _⟩, k0⟩ := aI h.EU
 obtain ⟨v1, l1, rfl, ⟨x1, rfl, _⟩, k1⟩ := aI k0
 obtain ⟨v2, l2, rfl, ⟨x2, rfl, _⟩, k2⟩ := aI k1
 obtain ⟨v3, l3, rfl, ⟨x3, rfl, _⟩, k3⟩ := aI k2
 obtain ⟨v4, l4, rfl, ⟨x4, rfl⟩, k4⟩ := aI k3
 obtain ⟨v5, l5, rfl, ⟨x5, rfl, _⟩, k5⟩ := aI k4
 obtain ⟨v6, l6, rfl, ⟨x6, rfl, _⟩, k6⟩ := aI k5
 obtain ⟨v7, l7, rfl, ⟨x7, rfl, _⟩, k7⟩ := aI k6
 obtain ⟨v8, l8, rfl, ⟨x8, rfl, _⟩, k8⟩ := aI k7
 obtain rfl := mD k8
 obtain ⟨u0, m0, p0, ⟨y0, rfl, _⟩, j0⟩ := aI h.yu
 obtain ⟨u1, m1, rfl, ⟨y1, rfl⟩, j1⟩ := aI j0
 obtain ⟨u2, m2, rfl, ⟨y2, rfl, _⟩, j2⟩ := aI j1
 obtain rfl := mD j2
 exact ⟨A, c, x0, x1, x2, x3, x4, x5, x6, x7, x8, B, d, y0, y1, y2, e, q0, e2, p0⟩
theorem ams {w : World} {A : Option Addr} {c Y : Nat} {Ds : List FnD} {b : bK} (hb : jY w b) (hr : gY w A 4 (Ds.map FnD.cells)) (hn : Ds.length <= 8) (hY : w.cell? ⟨Y, 0, none⟩ = some (.slice A Ds.length c)) (hlt : Y < w.heap.size) (h0 : ah b.pre 0 = 4 -> 0 <= ah b.pre 6) :
  Calls Tryz.prog 48 #[.agg b.cells.toArray, .pointer (some ⟨Y, 0, none⟩)] w (bld.Ans w (.bool (nD Ds b))) := by
 obtain ⟨As, cs, x0, x1, x2, x3, b4, x5, x6, x7, x8, B, d, y0, y1, y2, e1, e2, e3, e4⟩ := Yi hb
 have hcb : nD Ds b = (!decide (x0 = 4) || (decide (x6 < Ds.length) && decide ((b.ops.length : Int) = (Ds.getD x6.toNat noF).p))) := by unfold nD; rw [e2]; rfl
 have h06 : x0 = 4 -> 0 <= x6 := by rw [e2] at h0; exact h0
 have ec : b.cells = [.slice As b.st.length cs, .int .u8 x0, .int .u8 x1, .int .i64 x2, .int .i64 x3, .bool b4, .int .u8 x5, .int .i64 x6, .int .i64 x7, .int .i64 x8, .slice B b.ops.length d, .int .i64 y0, .bool y1, .int .u8 y2] := by unfold bK.cells; rw [e1, e2, e3, e4]; rfl
 rw [ec, hcb]
 have b0 : Below w.heap.size w (w.alloc (.cells #[.slice As b.st.length cs, .int .u8 x0, .int .u8 x1, .int .i64 x2, .int .i64 x3, .bool b4, .int .u8 x5, .int .i64 x6, .int .i64 x7, .int .i64 x8, .slice B b.ops.length d, .int .i64 y0, .bool y1, .int .u8 y2] tBk)) := (Below.refl _ _).alloc (apB _) _
 have hr1 : (w.alloc (.cells #[.slice As b.st.length cs, .int .u8 x0, .int .u8 x1, .int .i64 x2, .int .i64 x3, .bool b4, .int .u8 x5, .int .i64 x6, .int .i64 x7, .int .i64 x8, .slice B b.ops.length d, .int .i64 y0, .bool y1, .int .u8 y2] tBk)).rangeAt w.heap.size 1 [.int .u8 x0, .int .u8 x1, .int .i64 x2, .int .i64 x3, .bool b4, .int .u8 x5, .int .i64 x6, .int .i64 x7, .int .i64 x8, .slice B b.ops.length d, .int .i64 y0, .bool y1, .int .u8 y2] := fun j u hj => by
  rw [cell_of_row _ w.heap.size (1 + j) _ tBk (0, 0) (aX rfl), Nat.add_comm 1 j]
  simpa using hj
 have HR1 := Lib.hid hr1
 have HR := Lib.hid hr
 have HY := Lib.hid hY
 clear hb hr hr1 e1 e2 e3 e4 ec hcb h0
 go_enter Tryz.func48, Tryz.ntmps48
 go_upto_region 2 with (refine wpList_load_mid rfl tJm _ rfl w.heap.size 1 rfl [.int .u8 x0, .int .u8 x1, .int .i64 x2, .int .i64 x3, .bool b4, .int .u8 x5, .int .i64 x6, .int .i64 x7, .int .i64 x8, .slice B b.ops.length d, .int .i64 y0, .bool y1, .int .u8 y2] _ HR1.out Tryz.underlying58 rfl jmR ?_)
 obtain ⟨w2, hw2⟩ : ∃ w2, w2 = (w.alloc (.cells #[.slice As b.st.length cs, .int .u8 x0, .int .u8 x1, .int .i64 x2, .int .i64 x3, .bool b4, .int .u8 x5, .int .i64 x6, .int .i64 x7, .int .i64 x8, .slice B b.ops.length d, .int .i64 y0, .bool y1, .int .u8 y2] tBk)).alloc (.cells #[.int .u8 x0, .int .u8 x1, .int .i64 x2, .int .i64 x3, .bool b4, .int .u8 x5, .int .i64 x6, .int .i64 x7, .int .i64 x8, .slice B b.ops.length d, .int .i64 y0, .bool y1, .int .u8 y2] tJm) := ⟨_, rfl⟩
 have b2 : Below w.heap.size w w2 := by rw [hw2]; exact b0.alloc b0.size _
 have hj : w2.heap[w.heap.size + 1]? = some (.cells #[.int .u8 x0, .int .u8 x1, .int .i64 x2, .int .i64 x3, .bool b4, .int .u8 x5, .int .i64 x6, .int .i64 x7, .int .i64 x8, .slice B b.ops.length d, .int .i64 y0, .bool y1, .int .u8 y2] tJm (0, 0)) := by rw [hw2]; exact aX (by simp)
 rw [<- hw2]
 have k0 : w2.cell? ⟨w.heap.size + 1, 0, none⟩ = some (.int .u8 x0) := by rw [cell_of_row w2 _ 0 _ tJm (0, 0) hj]; rfl
 have k6 : w2.cell? ⟨w.heap.size + 1, 6, none⟩ = some (.int .i64 x6) := by rw [cell_of_row w2 _ 6 _ tJm (0, 0) hj]; rfl
 have k9 : w2.cell? ⟨w.heap.size + 1, 9, none⟩ = some (.slice B b.ops.length d) := by rw [cell_of_row w2 _ 9 _ tJm (0, 0) hj]; rfl
 have kY : w2.cell? ⟨Y, 0, none⟩ = some (.slice A Ds.length c) := (b2.cell (p := ⟨Y, 0, none⟩) hlt).trans HY.out
 have HB := Lib.hid b2
 have HR2 := Lib.hid (HR.out.below b2)
 clear b0 HR1 hw2 b2 hj HY HR
 by_cases hx : x0 = 4
 ·subst hx
  have h06 := h06 rfl
  by_cases hm : x6 < (Ds.length : Int)
  ·obtain ⟨m, rfl⟩ : ∃ m : Nat, x6 = (m : Int) := ⟨x6.toNat, by omega⟩
   obtain ⟨D, hD⟩ : ∃ D, Ds[m]? = some D := ⟨_, apx (by omega)⟩
   have hgd : Ds.getD (m : Int).toNat noF = D := by rw [apz, apE, hD]; rfl
   rw [hgd]
   obtain ⟨g, o, eA, hg, hcd⟩ := HR2.out m D.cells (by rw [apy, hD]; rfl)
   subst eA
   have kP := hcd 0 _ rfl
   simp only [Nat.add_zero] at kP
   have hne : ((4 : Int) != 4) = false := rfl
   have HQ := Lib.hid hD
   clear hcd hgd hD HR2
   refine bZ [⟨w.heap.size + 1, 0, none⟩, ⟨w.heap.size + 1, 6, none⟩, ⟨w.heap.size + 1, 9, none⟩, ⟨Y, 0, none⟩, ⟨g, o + m * 4, none⟩] [(0, true), (1, true), (2, true), (3, true), (4, true), (5, true), (6, true), (7, true), (8, true), (9, true), (10, true), (11, true), (12, true), (13, true), (14, true), (15, true), (16, true), (17, true), (18, true), (19, true), (20, true), (21, true), (22, true), (23, true), (24, true)] (by kernel_rfl) (by kernel_rfl) (by decide) (by kernel_rfl) (fun _ _ _ _ _ h => h) ?_
   have k0 : w2.drew.cell? ⟨w.heap.size + 1, 0, none⟩ = _ := k0
   have k6 : w2.drew.cell? ⟨w.heap.size + 1, 6, none⟩ = _ := k6
   have k9 : w2.drew.cell? ⟨w.heap.size + 1, 9, none⟩ = _ := k9
   have kY : w2.drew.cell? ⟨Y, 0, none⟩ = _ := kY
   have kP : w2.drew.cell? ⟨g, o + m * 4, none⟩ = _ := kP
   repeat (first | (refine SeqC.take (v := ?_) rfl (by rfl) (fun W hW => ?_) ?_; rotate_left; (focus (have zk0 := hW.get (by simp) k0; have zk6 := hW.get (by simp) k6; have zk9 := hW.get (by simp) k9; have zkY := hW.get (by simp) kY; have zkP := hW.get (by simp) kP; go_simp; with_reducible rfl)); simp only [Act.put, apu, apv, apw]) | (refine SeqC.skip rfl (by rfl) ?_; simp only [Act.put, apu, apv, apw]))
   refine SeqC.done ?_
   clear k0 k6 k9 kY kP
   go_wp2_with fail
   go_ret
   exact ⟨by simp [HQ.out]; rfl, HB.out.drew⟩
  ·have hne : ((4 : Int) != 4) = false := rfl
   have hd2 : decide (x6 < (Ds.length : Int)) = false := decide_eq_false hm
   clear HR2
   refine bZ [⟨w.heap.size + 1, 0, none⟩, ⟨w.heap.size + 1, 6, none⟩, ⟨w.heap.size + 1, 9, none⟩, ⟨Y, 0, none⟩] [(0, true), (1, true), (2, true), (3, true), (4, true), (5, true), (6, true), (7, true), (8, true), (9, true), (10, true), (11, true), (12, true), (13, true), (14, true), (15, true), (16, true), (17, true), (18, true), (19, true), (20, true), (21, true), (22, true), (23, true), (24, true)] (by kernel_rfl) (by kernel_rfl) (by decide) (by kernel_rfl) (fun _ _ _ _ _ h => h) ?_
   have k0 : w2.drew.cell? ⟨w.heap.size + 1, 0, none⟩ = _ := k0
   have k6 : w2.drew.cell? ⟨w.heap.size + 1, 6, none⟩ = _ := k6
   have k9 : w2.drew.cell? ⟨w.heap.size + 1, 9, none⟩ = _ := k9
   have kY : w2.drew.cell? ⟨Y, 0, none⟩ = _ := kY
   repeat (first | (refine SeqC.take (v := ?_) rfl (by rfl) (fun W hW => ?_) ?_; rotate_left; (focus (have zk0 := hW.get (by simp) k0; have zk6 := hW.get (by simp) k6; have zk9 := hW.get (by simp) k9; have zkY := hW.get (by simp) kY; go_simp; with_reducible rfl)); simp only [Act.put, apu, apv, apw]) | (refine SeqC.skip rfl (by rfl) ?_; simp only [Act.put, apu, apv, apw]))
   refine SeqC.done ?_
   clear k0 k6 k9 kY
   go_wp2_with fail
   go_ret
   exact ⟨by simp, HB.out.drew⟩
 ·have hne : (x0 != 4) = true := by simpa using hx
  have hx2 : decide (x0 = 4) = false := decide_eq_false hx
  clear HR2
  refine bZ [⟨w.heap.size + 1, 0, none⟩, ⟨w.heap.size + 1, 6, none⟩, ⟨w.heap.size + 1, 9, none⟩, ⟨Y, 0, none⟩] [(0, true), (1, true), (2, true), (3, true), (4, true), (5, true), (6, true), (7, true), (8, true), (9, true), (10, true), (11, true), (12, true), (13, true), (14, true), (15, true), (16, true), (17, true), (18, true), (19, true), (20, true), (21, true), (22, true), (23, true), (24, true)] (by kernel_rfl) (by kernel_rfl) (by decide) (by kernel_rfl) (fun _ _ _ _ _ h => h) ?_
  have k0 : w2.drew.cell? ⟨w.heap.size + 1, 0, none⟩ = _ := k0
  have k6 : w2.drew.cell? ⟨w.heap.size + 1, 6, none⟩ = _ := k6
  have k9 : w2.drew.cell? ⟨w.heap.size + 1, 9, none⟩ = _ := k9
  have kY : w2.drew.cell? ⟨Y, 0, none⟩ = _ := kY
  repeat (first | (refine SeqC.take (v := ?_) rfl (by rfl) (fun W hW => ?_) ?_; rotate_left; (focus (have zk0 := hW.get (by simp) k0; have zk6 := hW.get (by simp) k6; have zk9 := hW.get (by simp) k9; have zkY := hW.get (by simp) kY; go_simp; with_reducible rfl)); simp only [Act.put, apu, apv, apw]) | (refine SeqC.skip rfl (by rfl) ?_; simp only [Act.put, apu, apv, apw]))
  refine SeqC.done ?_
  clear k0 k6 k9 kY
  go_wp2_with fail
  go_ret
  exact ⟨by simp [hx], HB.out.drew⟩
abbrev tPr : TypeId := 43
theorem take_one {α : Type} {l : List α} {p : α -> Prop} {i : Nat} {x : α} (h : l[i]? = some x) (h0 : ∀ y ∈ l.take i, p y) (hx : p x) : ∀ y ∈ l.take (i + 1), p y := fun y hy => by
 rw [List.take_add_one, h] at hy
 rcases List.mem_append.1 hy with hy | hy
 ·exact h0 y hy
 ·rw [List.mem_singleton.1 hy]; exact hx
theorem iL {w : World} {A : Option Addr} {Ds : List FnD} {i : Nat} {D : FnD} (hr : gY w A 4 (Ds.map FnD.cells)) (h : Ds[i]? = some D) : ∃ g o, A = some ⟨g, o, none⟩ /\ g < w.heap.size /\ w.rangeAt g (o + i * 4) [.int .i64 D.p, .bool D.u, D.lv, D.bv] :=
 hr i D.cells (by rw [apy, h]; rfl)
theorem Gi {w : World} {v : Value} {D : FnD} (h : aV w v D) : ∃ A1 c1, D.lv = .slice A1 D.ls.length c1 /\ ∃ A2 c2, D.bv = .slice A2 D.bs.length c2 := by
 obtain ⟨A1, c1, q1⟩ := h.locals.sl
 obtain ⟨A2, c2, q2⟩ := h.blocks.sl
 rw [List.length_map] at q2
 exact ⟨A1, c1, q1, A2, c2, q2⟩
theorem JO {α : Type} {l : List α} {t : α -> Bool} {i : Nat} {x : α} (h : l[i]? = some x) (ht : t x = false) : l.all t = false := by
 rw [List.all_eq_false]
 exact ⟨x, apC h, by rw [ht]; decide⟩
theorem amq {w : World} {A : Option Addr} {c X Y : Nat} {Ds : List FnD} {D : FnD} (hD : aV w (.agg #[.int .i64 D.p, .bool D.u, D.lv, D.bv]) D) (hb24 : D.bs.length <= 24) (hok : ∀ b ∈ D.bs, ah b.pre 0 = 4 -> 0 <= ah b.pre 6) (hr : gY w A 4 (Ds.map FnD.cells)) (hn : Ds.length <= 8) (hX : w.cell? ⟨X, 0, none⟩ = some (.func (.func 48) #[] #[.pointer (some ⟨Y, 0, none⟩)])) (hXl : X < w.heap.size) (hY : w.cell? ⟨Y, 0, none⟩ = some (.slice A Ds.length c)) (hYl : Y < w.heap.size) :
  Calls Tryz.prog 53 #[.agg D.cells.toArray, .pointer (some ⟨X, 0, none⟩)] w (bld.Ans w (.bool (D.bs.all (nD Ds)))) := by
 obtain ⟨B, d, eb, hmb, hrb⟩ := aV.blks hD
 obtain ⟨w1, hw1⟩ : ∃ w1, w1 = w.alloc (.cells #[.int .i64 D.p, .bool D.u, D.lv, D.bv] tFn) := ⟨_, rfl⟩
 have b0 : Below w.heap.size w w1 := by rw [hw1]; exact (Below.refl _ _).alloc (apB _) _
 have B0 : Box w1 w.heap.size tFn (.int .i64 D.p) (.bool D.u) D.lv D.bv := by rw [hw1]; exact Box.mk rfl
 obtain ⟨y0, y1, y2, y3⟩ := B0.cells
 rw [eb] at y3 hw1
 have hX1 := (b0.cell (p := ⟨X, 0, none⟩) hXl).trans hX
 have HA := Lib.hid (allB (w := w1) (c := d) (Y := Y) (f := bK.cells) (t := nD Ds) (xs := D.bs) (hrb.below b0) (by omega) (fun b hb => ⟨mG (hD.blk b hb), xw (hD.blk b hb)⟩)
  (fun b hb W hW => ams (w := W) (((hD.frz b0.block).frz hW.block).blk b hb) ((hr.below b0).below hW) hn ((hW.cell (p := ⟨Y, 0, none⟩) (apD hYl b0.size)).trans ((b0.cell (p := ⟨Y, 0, none⟩) hYl).trans hY)) (apD hYl (Nat.le_trans b0.size hW.size)) (hok b hb)))
 have HB := Lib.hid b0
 unfold FnD.cells
 clear hD hr hX hY hok hrb b0 B0
 generalize D.bs.all (nD Ds) = q at *
 go_enter Tryz.func53, Tryz.ntmps53
 go_upto_region 1 with fail
 rw [<- hw1]
 clear hw1
 go_wp2_with (go_at_call 54; refine HA.out.mono ?_; rintro e w2 ⟨rfl, b2⟩)
 go_ret
 exact ⟨rfl, HB.out.trans (b2.mono HB.out.size)⟩
theorem agN {w : World} {A : Option Addr} {c : Nat} {Ds : List FnD} {D : FnD} (hD : aV w (.agg #[.int .i64 D.p, .bool D.u, D.lv, D.bv]) D) (hb24 : D.bs.length <= 24) (hok : ∀ b ∈ D.bs, ah b.pre 0 = 4 -> 0 <= ah b.pre 6) (hr : gY w A 4 (Ds.map FnD.cells)) (hn : Ds.length <= 8) :
  Calls Tryz.prog 30 #[.agg #[.slice A Ds.length c], .agg #[.int .i64 D.p, .bool D.u, D.lv, D.bv]] w (bld.Ans w (.bool (D.bs.all (nD Ds)))) := by
 obtain ⟨B0, d0, eb, hmb, hrb⟩ := aV.blks hD
 have HOK := Lib.hid hok
 have HBK := Lib.hid hD.blk
 rw [eb]
 obtain ⟨w1, hw1⟩ : ∃ w1, w1 = (w.alloc (.cells #[.slice A Ds.length c] tPr)).alloc (.cells #[.int .i64 D.p, .bool D.u, D.lv, .slice B0 D.bs.length d0] tFn) := ⟨_, rfl⟩
 have b1 : Below w.heap.size w w1 := by rw [hw1]; exact ((Below.refl _ _).alloc (apB _) _).alloc (by simp) _
 have P1 : w1.heap[w.heap.size]? = some (.cells #[.slice A Ds.length c] tPr (0, 0)) := by rw [hw1]; exact jX (aX rfl)
 have B1 : Box w1 (w.heap.size + 1) tFn (.int .i64 D.p) (.bool D.u) D.lv (.slice B0 D.bs.length d0) := by rw [hw1]; exact Box.mk (by simp)
 have hl1 := B1.lt
 have HB := Lib.hid b1
 have HP1 := Lib.hid P1
 have HB1 := Lib.hid B1
 have HR := Lib.hid hr
 have HRB := Lib.hid hrb
 clear hD hr hrb P1 B1 b1 eb hok
 go_enter Tryz.func30, Tryz.ntmps30
 go_upto_region 1 with fail
 rw [<- hw1]
 clear hw1
 go_wp2_with fail
 go_loopg [5] D.bs.length (fun g s5 w8 => ∃ i : Nat, s5 = .int .i64 i /\ i <= D.bs.length /\ g = D.bs.length - i /\ (∀ b ∈ D.bs.take i, nD Ds b = true) /\ Below w1.heap.size w1 w8)
 case atStart => exact ⟨0, rfl, Nat.zero_le _, rfl, (by simp), Below.refl _ _⟩
 case round =>
  obtain ⟨i, rfl, hi, rfl, hno, hbel⟩ := hrel
  have h0I : (0 : Int) <= (i : Int) := Int.natCast_nonneg _
  have HBL := Lib.hid hbel
  have HO := Lib.hid (HB.out.trans (hbel.mono HB.out.size))
  have HNO := Lib.hid hno
  obtain ⟨y0, y1, y2, y3⟩ := (HB1.out.below hbel).cells
  have hP := (hbel.block _ (apA.1 HP1.out).1).trans HP1.out
  have HP := Lib.hid hP
  clear hbel hno hP
  rcases Nat.lt_or_ge i D.bs.length with hlt | hge
  ·have hltI : (i : Int) < (D.bs.length : Int) := by omega
   obtain ⟨b, hb⟩ : ∃ b, D.bs[i]? = some b := ⟨_, apx hlt⟩
   have hbm := apC hb
   obtain ⟨gb, ob, eB, hgb, hcb⟩ := (HRB.out.below HO.out) i b.cells (by rw [apy, hb]; rfl)
   subst eB
   obtain ⟨As, cs, x0, x1, x2, x3, b4, x5, x6, x7, x8, B, d, y0', y1', y2', e1, e2, e3, e4⟩ := Yi (HBK.out b hbm)
   have hcall : nD Ds b = (!decide (x0 = 4) || (decide (x6 < Ds.length) && decide ((b.ops.length : Int) = (Ds.getD x6.toNat noF).p))) := by unfold nD; rw [e2]; rfl
   have h06 : x0 = 4 -> 0 <= x6 := by have := HOK.out b hbm; rw [e2] at this; exact this
   have hrj : wr.rangeAt gb (ob + i * 14 + 1) [.int .u8 x0, .int .u8 x1, .int .i64 x2, .int .i64 x3, .bool b4, .int .u8 x5, .int .i64 x6, .int .i64 x7, .int .i64 x8, .slice B b.ops.length d, .int .i64 y0', .bool y1', .int .u8 y2'] := fun j u hj => by
    have := hcb (j + 1) u (by unfold bK.cells; rw [e1, e2, e3, e4]; simpa using hj)
    rw [show ob + i * 14 + 1 + j = ob + i * 14 + (j + 1) by omega]
    exact this
   have HRJ := Lib.hid hrj
   have HX := Lib.hid hb
   have HCALL := Lib.hid hcall
   clear hcb hrj hb hbm e1 e2 e3 e4 hcall y0 y1 y2
   go_upto_region 5 with (refine wpList_load_mid rfl tJm _ rfl gb (ob + i * 14 + 1) rfl [.int .u8 x0, .int .u8 x1, .int .i64 x2, .int .i64 x3, .bool b4, .int .u8 x5, .int .i64 x6, .int .i64 x7, .int .i64 x8, .slice B b.ops.length d, .int .i64 y0', .bool y1', .int .u8 y2'] _ HRJ.out Tryz.underlying58 rfl jmR ?_)
   obtain ⟨w2, hw2⟩ : ∃ w2, w2 = wr.alloc (.cells #[.int .u8 x0, .int .u8 x1, .int .i64 x2, .int .i64 x3, .bool b4, .int .u8 x5, .int .i64 x6, .int .i64 x7, .int .i64 x8, .slice B b.ops.length d, .int .i64 y0', .bool y1', .int .u8 y2'] tJm) := ⟨_, rfl⟩
   have b2 : Below wr.heap.size wr w2 := by rw [hw2]; exact (Below.refl _ _).alloc (apB _) _
   have hj : w2.heap[wr.heap.size]? = some (.cells #[.int .u8 x0, .int .u8 x1, .int .i64 x2, .int .i64 x3, .bool b4, .int .u8 x5, .int .i64 x6, .int .i64 x7, .int .i64 x8, .slice B b.ops.length d, .int .i64 y0', .bool y1', .int .u8 y2'] tJm (0, 0)) := by rw [hw2]; exact aX rfl
   rw [<- hw2]
   have k0 : w2.cell? ⟨wr.heap.size, 0, none⟩ = some (.int .u8 x0) := by rw [cell_of_row w2 _ 0 _ tJm (0, 0) hj]; rfl
   have k6 : w2.cell? ⟨wr.heap.size, 6, none⟩ = some (.int .i64 x6) := by rw [cell_of_row w2 _ 6 _ tJm (0, 0) hj]; rfl
   have k9 : w2.cell? ⟨wr.heap.size, 9, none⟩ = some (.slice B b.ops.length d) := by rw [cell_of_row w2 _ 9 _ tJm (0, 0) hj]; rfl
   have hlw : w.heap.size < wr.heap.size := (apA.1 HP.out).1
   have kY : w2.cell? ⟨w.heap.size, 0, none⟩ = some (.slice A Ds.length c) := (b2.cell (p := ⟨w.heap.size, 0, none⟩) hlw).trans (by rw [cell_of_row wr _ 0 _ tPr (0, 0) HP.out]; rfl)
   have HO2 := Lib.hid (HO.out.trans (b2.mono HO.out.size))
   have HB2 := Lib.hid (HBL.out.trans (b2.mono HBL.out.size))
   have HR2 := Lib.hid (HR.out.below HO2.out)
   clear hw2 b2 hj HR HRJ y3
   by_cases hx : x0 = 4
   ·subst hx
    have h06 := h06 rfl
    have hne : ((4 : Int) == 4) = true := rfl
    by_cases hm : x6 < (Ds.length : Int)
    ·obtain ⟨m, rfl⟩ : ∃ m : Nat, x6 = (m : Int) := ⟨x6.toNat, by omega⟩
     have hge : decide ((m : Int) >= (Ds.length : Int)) = false := decide_eq_false (by omega)
     have hge2 : ¬ (Ds.length : Int) <= (m : Int) := by omega
     obtain ⟨E, hE⟩ : ∃ E, Ds[m]? = some E := ⟨_, apx (by omega)⟩
     have hgd : Ds.getD (m : Int).toNat noF = E := by rw [apz, apE, hE]; rfl
     obtain ⟨g, o, eA, hg, hcd⟩ := HR2.out m E.cells (by rw [apy, hE]; rfl)
     subst eA
     have kP := hcd 0 _ rfl
     simp only [Nat.add_zero] at kP
     have hcb : nD Ds b = decide ((b.ops.length : Int) = E.p) := by rw [HCALL.out, hgd, decide_eq_true hm]; rfl
     have HCB0 := Lib.hid hcb
     clear hcd hgd hE HR2 HCALL hcb
     by_cases hp : (b.ops.length : Int) = E.p
     ·have HCB := Lib.hid (HCB0.out.trans (decide_eq_true hp))
      have hpn : ((b.ops.length : Int) != E.p) = false := by rw [hp]; exact bne_self_eq_false _
      clear HCB0
      refine bZ [⟨wr.heap.size, 0, none⟩, ⟨wr.heap.size, 6, none⟩, ⟨wr.heap.size, 9, none⟩, ⟨w.heap.size, 0, none⟩, ⟨g, o + m * 4, none⟩] [(0, true), (1, true), (2, true), (3, true), (4, true), (5, true), (6, true), (7, true), (8, true), (9, true), (10, true), (11, true), (12, true), (13, true), (14, true), (15, true), (16, true), (17, true), (18, true), (19, true), (20, true), (21, true), (22, true), (23, true)] (by kernel_rfl) (by kernel_rfl) (by decide) (by kernel_rfl) (fun _ _ _ _ _ h => h) ?_
      have k0 : w2.drew.cell? ⟨wr.heap.size, 0, none⟩ = _ := k0
      have k6 : w2.drew.cell? ⟨wr.heap.size, 6, none⟩ = _ := k6
      have k9 : w2.drew.cell? ⟨wr.heap.size, 9, none⟩ = _ := k9
      have kY : w2.drew.cell? ⟨w.heap.size, 0, none⟩ = _ := kY
      have kP : w2.drew.cell? ⟨g, o + m * 4, none⟩ = _ := kP
      repeat (first | (refine SeqC.take (v := ?_) rfl (by rfl) (fun W hW => ?_) ?_; rotate_left; (focus (have zk0 := hW.get (by simp) k0; have zk6 := hW.get (by simp) k6; have zk9 := hW.get (by simp) k9; have zkY := hW.get (by simp) kY; have zkP := hW.get (by simp) kP; go_simp; with_reducible rfl)); simp only [Act.put, apu, apv, apw]) | (refine SeqC.skip rfl (by rfl) ?_; simp only [Act.put, apu, apv, apw]))
      refine SeqC.done ?_
      clear k0 k6 k9 kY kP
      go_wp2_with fail
      go_roundg (D.bs.length - (i + 1))
      case measure => omega
      case rel => exact ⟨i + 1, by simp, by omega, rfl, take_one HX.out HNO.out HCB.out, HB2.out.drew⟩
     ·have HCB := Lib.hid (HCB0.out.trans (decide_eq_false hp))
      have hpn : ((b.ops.length : Int) != E.p) = true := by simpa using hp
      clear HCB0
      refine bZ [⟨wr.heap.size, 0, none⟩, ⟨wr.heap.size, 6, none⟩, ⟨wr.heap.size, 9, none⟩, ⟨w.heap.size, 0, none⟩, ⟨g, o + m * 4, none⟩] [(0, true), (1, true), (2, true), (3, true), (4, true), (5, true), (6, true), (7, true), (8, true), (9, true), (10, true), (11, true), (12, true), (13, true), (14, true), (15, true), (16, true), (17, true), (18, true), (19, true), (20, true), (21, true), (22, true), (23, true)] (by kernel_rfl) (by kernel_rfl) (by decide) (by kernel_rfl) (fun _ _ _ _ _ h => h) ?_
      have k0 : w2.drew.cell? ⟨wr.heap.size, 0, none⟩ = _ := k0
      have k6 : w2.drew.cell? ⟨wr.heap.size, 6, none⟩ = _ := k6
      have k9 : w2.drew.cell? ⟨wr.heap.size, 9, none⟩ = _ := k9
      have kY : w2.drew.cell? ⟨w.heap.size, 0, none⟩ = _ := kY
      have kP : w2.drew.cell? ⟨g, o + m * 4, none⟩ = _ := kP
      repeat (first | (refine SeqC.take (v := ?_) rfl (by rfl) (fun W hW => ?_) ?_; rotate_left; (focus (have zk0 := hW.get (by simp) k0; have zk6 := hW.get (by simp) k6; have zk9 := hW.get (by simp) k9; have zkY := hW.get (by simp) kY; have zkP := hW.get (by simp) kP; go_simp; with_reducible rfl)); simp only [Act.put, apu, apv, apw]) | (refine SeqC.skip rfl (by rfl) ?_; simp only [Act.put, apu, apv, apw]))
      refine SeqC.done ?_
      clear k0 k6 k9 kY kP
      go_wp2_with fail
      go_ret
      exact ⟨by rw [JO HX.out HCB.out]; rfl, HO2.out.drew⟩
    ·have hge : decide (x6 >= (Ds.length : Int)) = true := decide_eq_true (by omega)
     have hge2 : (Ds.length : Int) <= x6 := by omega
     have HCB := Lib.hid (show nD Ds b = false from by rw [HCALL.out, decide_eq_false hm]; rfl)
     clear HR2 HCALL
     refine bZ [⟨wr.heap.size, 0, none⟩, ⟨wr.heap.size, 6, none⟩, ⟨wr.heap.size, 9, none⟩, ⟨w.heap.size, 0, none⟩] [(0, true), (1, true), (2, true), (3, true), (4, true), (5, true), (6, true), (7, true), (8, true), (9, true), (10, true), (11, true), (12, true), (13, true), (14, true), (15, true), (16, true), (17, true), (18, true), (19, true), (20, true), (21, true), (22, true), (23, true)] (by kernel_rfl) (by kernel_rfl) (by decide) (by kernel_rfl) (fun _ _ _ _ _ h => h) ?_
     have k0 : w2.drew.cell? ⟨wr.heap.size, 0, none⟩ = _ := k0
     have k6 : w2.drew.cell? ⟨wr.heap.size, 6, none⟩ = _ := k6
     have k9 : w2.drew.cell? ⟨wr.heap.size, 9, none⟩ = _ := k9
     have kY : w2.drew.cell? ⟨w.heap.size, 0, none⟩ = _ := kY
     repeat (first | (refine SeqC.take (v := ?_) rfl (by rfl) (fun W hW => ?_) ?_; rotate_left; (focus (have zk0 := hW.get (by simp) k0; have zk6 := hW.get (by simp) k6; have zk9 := hW.get (by simp) k9; have zkY := hW.get (by simp) kY; go_simp; with_reducible rfl)); simp only [Act.put, apu, apv, apw]) | (refine SeqC.skip rfl (by rfl) ?_; simp only [Act.put, apu, apv, apw]))
     refine SeqC.done ?_
     clear k0 k6 k9 kY
     go_wp2_with fail
     go_ret
     exact ⟨by rw [JO HX.out HCB.out]; rfl, HO2.out.drew⟩
   ·have hne : (x0 == 4) = false := by rw [beq_eq_false_iff_ne]; exact hx
    have HCB := Lib.hid (show nD Ds b = true from by rw [HCALL.out, decide_eq_false hx]; rfl)
    clear HR2 HCALL
    refine bZ [⟨wr.heap.size, 0, none⟩, ⟨wr.heap.size, 6, none⟩, ⟨wr.heap.size, 9, none⟩, ⟨w.heap.size, 0, none⟩] [(0, true), (1, true), (2, true), (3, true), (4, true), (5, true), (6, true), (7, true), (8, true), (9, true), (10, true), (11, true), (12, true), (13, true), (14, true), (15, true), (16, true), (17, true), (18, true), (19, true), (20, true), (21, true), (22, true), (23, true)] (by kernel_rfl) (by kernel_rfl) (by decide) (by kernel_rfl) (fun _ _ _ _ _ h => h) ?_
    have k0 : w2.drew.cell? ⟨wr.heap.size, 0, none⟩ = _ := k0
    have k6 : w2.drew.cell? ⟨wr.heap.size, 6, none⟩ = _ := k6
    have k9 : w2.drew.cell? ⟨wr.heap.size, 9, none⟩ = _ := k9
    have kY : w2.drew.cell? ⟨w.heap.size, 0, none⟩ = _ := kY
    repeat (first | (refine SeqC.take (v := ?_) rfl (by rfl) (fun W hW => ?_) ?_; rotate_left; (focus (have zk0 := hW.get (by simp) k0; have zk6 := hW.get (by simp) k6; have zk9 := hW.get (by simp) k9; have zkY := hW.get (by simp) kY; go_simp; with_reducible rfl)); simp only [Act.put, apu, apv, apw]) | (refine SeqC.skip rfl (by rfl) ?_; simp only [Act.put, apu, apv, apw]))
    refine SeqC.done ?_
    clear k0 k6 k9 kY
    go_wp2_with fail
    go_roundg (D.bs.length - (i + 1))
    case measure => omega
    case rel => exact ⟨i + 1, by simp, by omega, rfl, take_one HX.out HNO.out HCB.out, HB2.out.drew⟩
  ·obtain rfl : i = D.bs.length := by omega
   have hall := HNO.out
   rw [List.take_length] at hall
   have HA := Lib.hid (show D.bs.all (nD Ds) = true from List.all_eq_true.2 hall)
   clear hall
   go_wp2_with fail
   go_ret
   exact ⟨by rw [HA.out]; rfl, HO.out⟩
end prg
end Go.Proofs.YtglmonlofejcgaaGreatDoor
