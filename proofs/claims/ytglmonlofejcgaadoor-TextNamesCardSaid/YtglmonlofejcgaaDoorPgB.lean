/- What the checks of a program look at in a block's jump, and in the first function's locals: the closures of program.Check. -/
import Derived.Test.YtglmonlofejcgaaDoorPgA
import Derived.Test.YtglmonlofejcgaaDoorTextX
namespace Go.Proofs.YtglmonlofejcgaaDoor.prg
open Go.RowKit Go.Proofs.YtglmonlofejcgaaDoor Go.Proofs.YtglmonlofejcgaaDoor.Am Go.Proofs.YtglmonlofejcgaaDoor.loan Go.Proofs.YtglmonlofejcgaaDoor.bld
set_option linter.unusedVariables false
abbrev tJm : TypeId := 50
theorem jmR : (Tryd.prog.info? 50).map (·.size) = some 13 := by kernel_rfl
def noF : FnD := ⟨0, false, .bool false, .bool false, [], [], ⟨.slice none 0 0, []⟩⟩
def callB (Ds : List FnD) (b : BlkD) : Bool := !decide (cellI b.pre 0 = 4) || (decide (cellI b.pre 6 < Ds.length) && decide ((b.ops.length : Int) = (Ds.getD (cellI b.pre 6).toNat noF).p))
theorem blk_form {w : World} {b : BlkD} (h : BlkOk w b) : ∃ (A : Option Addr) (c : Nat) (x0 x1 : Int) (x2 x3 : Int) (b4 : Bool) (x5 x6 x7 x8 : Int) (B : Option Addr) (d : Nat) (y0 : Int) (y1 : Bool) (y2 : Int), b.s = .slice A b.st.length c ∧ b.pre = [.int .u8 x0, .int .u8 x1, .int .i64 x2, .int .i64 x3, .bool b4, .int .u8 x5, .int .i64 x6, .int .i64 x7, .int .i64 x8] ∧ b.a = .slice B b.ops.length d ∧ b.post = [.int .i64 y0, .bool y1, .int .u8 y2] := by
 obtain ⟨A, c, e, _⟩ := BlkOk.stms h
 obtain ⟨B, d, e2, _⟩ := ListAt.rows h.opl (by decide)
 obtain ⟨v0, l0, q0, ⟨x0, rfl, _⟩, k0⟩ := all2_cons' h.prek
 obtain ⟨v1, l1, rfl, ⟨x1, rfl, _⟩, k1⟩ := all2_cons' k0
 obtain ⟨v2, l2, rfl, ⟨x2, rfl, _⟩, k2⟩ := all2_cons' k1
 obtain ⟨v3, l3, rfl, ⟨x3, rfl, _⟩, k3⟩ := all2_cons' k2
 obtain ⟨v4, l4, rfl, ⟨x4, rfl⟩, k4⟩ := all2_cons' k3
 obtain ⟨v5, l5, rfl, ⟨x5, rfl, _⟩, k5⟩ := all2_cons' k4
 obtain ⟨v6, l6, rfl, ⟨x6, rfl, _⟩, k6⟩ := all2_cons' k5
 obtain ⟨v7, l7, rfl, ⟨x7, rfl, _⟩, k7⟩ := all2_cons' k6
 obtain ⟨v8, l8, rfl, ⟨x8, rfl, _⟩, k8⟩ := all2_cons' k7
 obtain rfl := all2_nil' k8
 obtain ⟨u0, m0, p0, ⟨y0, rfl, _⟩, j0⟩ := all2_cons' h.postk
 obtain ⟨u1, m1, rfl, ⟨y1, rfl⟩, j1⟩ := all2_cons' j0
 obtain ⟨u2, m2, rfl, ⟨y2, rfl, _⟩, j2⟩ := all2_cons' j1
 obtain rfl := all2_nil' j2
 exact ⟨A, c, x0, x1, x2, x3, x4, x5, x6, x7, x8, B, d, y0, y1, y2, e, q0, e2, p0⟩
set_option maxHeartbeats 4000000 in
set_option maxRecDepth 100000 in
theorem call_c {w : World} {A : Option Addr} {c Y : Nat} {Ds : List FnD} {b : BlkD} (hb : BlkOk w b) (hr : RowsAt w A 4 (Ds.map FnD.cells)) (hn : Ds.length ≤ 8) (hY : w.cell? ⟨Y, 0, none⟩ = some (.slice A Ds.length c)) (hlt : Y < w.heap.size) (h0 : cellI b.pre 0 = 4 → 0 ≤ cellI b.pre 6) :
  Calls Tryd.prog 59 #[.agg b.cells.toArray, .pointer (some ⟨Y, 0, none⟩)] w (bld.Ans w (.bool (callB Ds b))) := by
 obtain ⟨As, cs, x0, x1, x2, x3, b4, x5, x6, x7, x8, B, d, y0, y1, y2, e1, e2, e3, e4⟩ := blk_form hb
 have hcb : callB Ds b = (!decide (x0 = 4) || (decide (x6 < Ds.length) && decide ((b.ops.length : Int) = (Ds.getD x6.toNat noF).p))) := by unfold callB; rw [e2]; rfl
 have h06 : x0 = 4 → 0 ≤ x6 := by rw [e2] at h0; exact h0
 have ec : b.cells = [.slice As b.st.length cs, .int .u8 x0, .int .u8 x1, .int .i64 x2, .int .i64 x3, .bool b4, .int .u8 x5, .int .i64 x6, .int .i64 x7, .int .i64 x8, .slice B b.ops.length d, .int .i64 y0, .bool y1, .int .u8 y2] := by unfold BlkD.cells; rw [e1, e2, e3, e4]; rfl
 rw [ec, hcb]
 have b0 : Below w.heap.size w (w.alloc (.cells #[.slice As b.st.length cs, .int .u8 x0, .int .u8 x1, .int .i64 x2, .int .i64 x3, .bool b4, .int .u8 x5, .int .i64 x6, .int .i64 x7, .int .i64 x8, .slice B b.ops.length d, .int .i64 y0, .bool y1, .int .u8 y2] tBk)) := (Below.refl _ _).alloc (Nat.le_refl _) _
 have hr1 : (w.alloc (.cells #[.slice As b.st.length cs, .int .u8 x0, .int .u8 x1, .int .i64 x2, .int .i64 x3, .bool b4, .int .u8 x5, .int .i64 x6, .int .i64 x7, .int .i64 x8, .slice B b.ops.length d, .int .i64 y0, .bool y1, .int .u8 y2] tBk)).rangeAt w.heap.size 1 [.int .u8 x0, .int .u8 x1, .int .i64 x2, .int .i64 x3, .bool b4, .int .u8 x5, .int .i64 x6, .int .i64 x7, .int .i64 x8, .slice B b.ops.length d, .int .i64 y0, .bool y1, .int .u8 y2] := fun j u hj => by
  rw [cell_of_row _ w.heap.size (1 + j) _ tBk (0, 0) (at_alloc rfl), Nat.add_comm 1 j]
  simpa using hj
 have HR1 := Lib.hid hr1
 have HR := Lib.hid hr
 have HY := Lib.hid hY
 clear hb hr hr1 e1 e2 e3 e4 ec hcb h0
 go_enter Tryd.func59, Tryd.ntmps59
 go_upto_region 2 with (refine wpList_load_mid rfl tJm _ rfl w.heap.size 1 rfl [.int .u8 x0, .int .u8 x1, .int .i64 x2, .int .i64 x3, .bool b4, .int .u8 x5, .int .i64 x6, .int .i64 x7, .int .i64 x8, .slice B b.ops.length d, .int .i64 y0, .bool y1, .int .u8 y2] _ HR1.out Tryd.underlying50 rfl jmR ?_)
 obtain ⟨w2, hw2⟩ : ∃ w2, w2 = (w.alloc (.cells #[.slice As b.st.length cs, .int .u8 x0, .int .u8 x1, .int .i64 x2, .int .i64 x3, .bool b4, .int .u8 x5, .int .i64 x6, .int .i64 x7, .int .i64 x8, .slice B b.ops.length d, .int .i64 y0, .bool y1, .int .u8 y2] tBk)).alloc (.cells #[.int .u8 x0, .int .u8 x1, .int .i64 x2, .int .i64 x3, .bool b4, .int .u8 x5, .int .i64 x6, .int .i64 x7, .int .i64 x8, .slice B b.ops.length d, .int .i64 y0, .bool y1, .int .u8 y2] tJm) := ⟨_, rfl⟩
 have b2 : Below w.heap.size w w2 := by rw [hw2]; exact b0.alloc b0.size _
 have hj : w2.heap[w.heap.size + 1]? = some (.cells #[.int .u8 x0, .int .u8 x1, .int .i64 x2, .int .i64 x3, .bool b4, .int .u8 x5, .int .i64 x6, .int .i64 x7, .int .i64 x8, .slice B b.ops.length d, .int .i64 y0, .bool y1, .int .u8 y2] tJm (0, 0)) := by rw [hw2]; exact at_alloc (by simp)
 rw [← hw2]
 have k0 : w2.cell? ⟨w.heap.size + 1, 0, none⟩ = some (.int .u8 x0) := by rw [cell_of_row w2 _ 0 _ tJm (0, 0) hj]; rfl
 have k6 : w2.cell? ⟨w.heap.size + 1, 6, none⟩ = some (.int .i64 x6) := by rw [cell_of_row w2 _ 6 _ tJm (0, 0) hj]; rfl
 have k9 : w2.cell? ⟨w.heap.size + 1, 9, none⟩ = some (.slice B b.ops.length d) := by rw [cell_of_row w2 _ 9 _ tJm (0, 0) hj]; rfl
 have kY : w2.cell? ⟨Y, 0, none⟩ = some (.slice A Ds.length c) := (b2.cell (p := ⟨Y, 0, none⟩) hlt).trans HY.out
 have HB := Lib.hid b2
 have HR2 := Lib.hid (HR.out.below b2)
 clear b0 HR1 hw2 b2 hj HY HR
 by_cases hx : x0 = 4
 ·subst hx
  have h06 := h06 rfl
  by_cases hm : x6 < (Ds.length : Int)
  ·obtain ⟨m, rfl⟩ : ∃ m : Nat, x6 = (m : Int) := ⟨x6.toNat, by omega⟩
   obtain ⟨D, hD⟩ : ∃ D, Ds[m]? = some D := ⟨_, List.getElem?_eq_getElem (by omega)⟩
   have hgd : Ds.getD (m : Int).toNat noF = D := by rw [List.getD_eq_getElem?_getD, Int.toNat_natCast, hD]; rfl
   rw [hgd]
   obtain ⟨g, o, eA, hg, hcd⟩ := HR2.out m D.cells (by rw [List.getElem?_map, hD]; rfl)
   subst eA
   have kP := hcd 0 _ rfl
   simp only [Nat.add_zero] at kP
   have hne : ((4 : Int) != 4) = false := rfl
   have HQ := Lib.hid hD
   clear hcd hgd hD HR2
   refine region_cells [⟨w.heap.size + 1, 0, none⟩, ⟨w.heap.size + 1, 6, none⟩, ⟨w.heap.size + 1, 9, none⟩, ⟨Y, 0, none⟩, ⟨g, o + m * 4, none⟩] [(0, true), (1, true), (2, true), (3, true), (4, true), (5, true), (6, true), (7, true), (8, true), (9, true), (10, true), (11, true), (12, true), (13, true), (14, true), (15, true), (16, true), (17, true), (18, true), (19, true), (20, true), (21, true), (22, true), (23, true), (24, true)] (by kernel_rfl) (by kernel_rfl) (by decide) (by kernel_rfl) (fun _ _ _ _ _ h => h) ?_
   have k0 : w2.drew.cell? ⟨w.heap.size + 1, 0, none⟩ = _ := k0
   have k6 : w2.drew.cell? ⟨w.heap.size + 1, 6, none⟩ = _ := k6
   have k9 : w2.drew.cell? ⟨w.heap.size + 1, 9, none⟩ = _ := k9
   have kY : w2.drew.cell? ⟨Y, 0, none⟩ = _ := kY
   have kP : w2.drew.cell? ⟨g, o + m * 4, none⟩ = _ := kP
   repeat (first | (refine SeqC.take (v := ?_) rfl (by rfl) (fun W hW => ?_) ?_; rotate_left; (focus (have zk0 := hW.get (by simp) k0; have zk6 := hW.get (by simp) k6; have zk9 := hW.get (by simp) k9; have zkY := hW.get (by simp) kY; have zkP := hW.get (by simp) kP; go_simp; with_reducible rfl)); simp only [Act.put, List.setIfInBounds_toArray, List.set_cons_zero, List.set_cons_succ]) | (refine SeqC.skip rfl (by rfl) ?_; simp only [Act.put, List.setIfInBounds_toArray, List.set_cons_zero, List.set_cons_succ]))
   refine SeqC.done ?_
   clear k0 k6 k9 kY kP
   go_wp2_with fail
   go_ret
   exact ⟨by simp [HQ.out]; rfl, HB.out.drew⟩
  ·have hne : ((4 : Int) != 4) = false := rfl
   have hd2 : decide (x6 < (Ds.length : Int)) = false := decide_eq_false hm
   clear HR2
   refine region_cells [⟨w.heap.size + 1, 0, none⟩, ⟨w.heap.size + 1, 6, none⟩, ⟨w.heap.size + 1, 9, none⟩, ⟨Y, 0, none⟩] [(0, true), (1, true), (2, true), (3, true), (4, true), (5, true), (6, true), (7, true), (8, true), (9, true), (10, true), (11, true), (12, true), (13, true), (14, true), (15, true), (16, true), (17, true), (18, true), (19, true), (20, true), (21, true), (22, true), (23, true), (24, true)] (by kernel_rfl) (by kernel_rfl) (by decide) (by kernel_rfl) (fun _ _ _ _ _ h => h) ?_
   have k0 : w2.drew.cell? ⟨w.heap.size + 1, 0, none⟩ = _ := k0
   have k6 : w2.drew.cell? ⟨w.heap.size + 1, 6, none⟩ = _ := k6
   have k9 : w2.drew.cell? ⟨w.heap.size + 1, 9, none⟩ = _ := k9
   have kY : w2.drew.cell? ⟨Y, 0, none⟩ = _ := kY
   repeat (first | (refine SeqC.take (v := ?_) rfl (by rfl) (fun W hW => ?_) ?_; rotate_left; (focus (have zk0 := hW.get (by simp) k0; have zk6 := hW.get (by simp) k6; have zk9 := hW.get (by simp) k9; have zkY := hW.get (by simp) kY; go_simp; with_reducible rfl)); simp only [Act.put, List.setIfInBounds_toArray, List.set_cons_zero, List.set_cons_succ]) | (refine SeqC.skip rfl (by rfl) ?_; simp only [Act.put, List.setIfInBounds_toArray, List.set_cons_zero, List.set_cons_succ]))
   refine SeqC.done ?_
   clear k0 k6 k9 kY
   go_wp2_with fail
   go_ret
   exact ⟨by simp, HB.out.drew⟩
 ·have hne : (x0 != 4) = true := by simpa using hx
  have hx2 : decide (x0 = 4) = false := decide_eq_false hx
  clear HR2
  refine region_cells [⟨w.heap.size + 1, 0, none⟩, ⟨w.heap.size + 1, 6, none⟩, ⟨w.heap.size + 1, 9, none⟩, ⟨Y, 0, none⟩] [(0, true), (1, true), (2, true), (3, true), (4, true), (5, true), (6, true), (7, true), (8, true), (9, true), (10, true), (11, true), (12, true), (13, true), (14, true), (15, true), (16, true), (17, true), (18, true), (19, true), (20, true), (21, true), (22, true), (23, true), (24, true)] (by kernel_rfl) (by kernel_rfl) (by decide) (by kernel_rfl) (fun _ _ _ _ _ h => h) ?_
  have k0 : w2.drew.cell? ⟨w.heap.size + 1, 0, none⟩ = _ := k0
  have k6 : w2.drew.cell? ⟨w.heap.size + 1, 6, none⟩ = _ := k6
  have k9 : w2.drew.cell? ⟨w.heap.size + 1, 9, none⟩ = _ := k9
  have kY : w2.drew.cell? ⟨Y, 0, none⟩ = _ := kY
  repeat (first | (refine SeqC.take (v := ?_) rfl (by rfl) (fun W hW => ?_) ?_; rotate_left; (focus (have zk0 := hW.get (by simp) k0; have zk6 := hW.get (by simp) k6; have zk9 := hW.get (by simp) k9; have zkY := hW.get (by simp) kY; go_simp; with_reducible rfl)); simp only [Act.put, List.setIfInBounds_toArray, List.set_cons_zero, List.set_cons_succ]) | (refine SeqC.skip rfl (by rfl) ?_; simp only [Act.put, List.setIfInBounds_toArray, List.set_cons_zero, List.set_cons_succ]))
  refine SeqC.done ?_
  clear k0 k6 k9 kY
  go_wp2_with fail
  go_ret
  exact ⟨by simp [hx], HB.out.drew⟩
abbrev tPr : TypeId := 67
theorem take_one {α : Type} {l : List α} {p : α → Prop} {i : Nat} {x : α} (h : l[i]? = some x) (h0 : ∀ y ∈ l.take i, p y) (hx : p x) : ∀ y ∈ l.take (i + 1), p y := fun y hy => by
 rw [List.take_add_one, h] at hy
 rcases List.mem_append.1 hy with hy | hy
 ·exact h0 y hy
 ·rw [List.mem_singleton.1 hy]; exact hx
theorem fn_range4 {w : World} {A : Option Addr} {Ds : List FnD} {i : Nat} {D : FnD} (hr : RowsAt w A 4 (Ds.map FnD.cells)) (h : Ds[i]? = some D) : ∃ g o, A = some ⟨g, o, none⟩ ∧ g < w.heap.size ∧ w.rangeAt g (o + i * 4) [.int .i64 D.p, .bool D.u, D.lv, D.bv] :=
 hr i D.cells (by rw [List.getElem?_map, h]; rfl)
theorem fn_slices {w : World} {v : Value} {D : FnD} (h : FnOk' w v D) : ∃ A1 c1, D.lv = .slice A1 D.ls.length c1 ∧ ∃ A2 c2, D.bv = .slice A2 D.bs.length c2 := by
 obtain ⟨A1, c1, q1⟩ := h.locals.sl
 obtain ⟨A2, c2, q2⟩ := h.blocks.sl
 rw [List.length_map] at q2
 exact ⟨A1, c1, q1, A2, c2, q2⟩
end Go.Proofs.YtglmonlofejcgaaDoor.prg
