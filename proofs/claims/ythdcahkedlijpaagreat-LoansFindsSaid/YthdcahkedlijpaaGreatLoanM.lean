/- pawnshopref21.Killed, by its contract: whether a point kills a loan. loans.Kills where it answers an error. -/
import Derived.Test.YthdcahkedlijpaaGreatLoanI
namespace Go.Proofs.YthdcahkedlijpaaGreat.loan
open Go.RowKit Go.Proofs.YthdcahkedlijpaaGreat Go.Proofs.YthdcahkedlijpaaGreat.Am
set_option linter.unusedVariables false
set_option maxRecDepth 100000 in
set_option maxHeartbeats 4000000 in
theorem killed_c {w : World} {v : Value} {D : FnD} (h : FnOk' w v D) (hs : Small D) {n : Nat} (hn : n < sizeN D) {x0 a c d e : Int} {u : Bool} :
  Calls Tryz.prog 33 #[v, .agg #[.int .i64 x0, .int .i64 a, .bool u, .int .u8 c, .int .u8 d, .int .i64 e], .int .i64 (n : Nat)] w (Ans1 w (.bool (kilB D.bs u a n))) := by
 have hS := fun w1 (hb : Below w.heap.size w w1) => set16_c (h.frz hb.block) hs hn
 rw [h.eq] at hS ⊢
 have HS := Lib.hid hS
 clear hS h hs
 obtain ⟨w1, hw1⟩ : ∃ w1, w1 = (w.alloc (.cells #[.int .i64 D.p, .bool D.u, D.lv, D.bv] tF)).alloc (.cells #[.int .i64 x0, .int .i64 a, .bool u, .int .u8 c, .int .u8 d, .int .i64 e] tLn) := ⟨_, rfl⟩
 have b01 : Below w.heap.size w w1.drew := by rw [hw1]; exact (((Below.refl _ _).alloc (Nat.le_refl _) _).alloc (by simp) _).drew
 have B0 : Box w1.drew w.heap.size tF (.int .i64 D.p) (.bool D.u) D.lv D.bv := by rw [hw1]; exact (Box.mk rfl).more
 have s1 : w1.drew.heap.size = w.heap.size + 2 := by rw [hw1]; show ((w.alloc _).alloc _).heap.size = _; simp
 have p1 : w1.drew.cell? ⟨w.heap.size + 1, 1, none⟩ = some (.int .i64 a) := by
  rw [hw1]
  exact (cell_of_row _ (w.heap.size + 1) 1 #[.int .i64 x0, .int .i64 a, .bool u, .int .u8 c, .int .u8 d, .int .i64 e] tLn (0, 0) (at_alloc (by simp))).trans rfl
 have p2 : w1.drew.cell? ⟨w.heap.size + 1, 2, none⟩ = some (.bool u) := by
  rw [hw1]
  exact (cell_of_row _ (w.heap.size + 1) 2 #[.int .i64 x0, .int .i64 a, .bool u, .int .u8 c, .int .u8 d, .int .i64 e] tLn (0, 0) (at_alloc (by simp))).trans rfl
 obtain ⟨y0, y1, y2, y3⟩ := B0.cells
 clear B0
 go_enter Tryz.func33, Tryz.ntmps33
 go_upto_region 1 with fail
 rw [← hw1]
 clear hw1
 refine region_cells [⟨w.heap.size, 0, none⟩, ⟨w.heap.size, 1, none⟩, ⟨w.heap.size, 2, none⟩, ⟨w.heap.size, 3, none⟩, ⟨w.heap.size + 1, 1, none⟩, ⟨w.heap.size + 1, 2, none⟩] [(0, true), (1, true), (2, true), (3, true), (4, true), (5, true), (7, true), (8, true), (9, true), (6, false), (10, true), (11, true), (12, true)] (by kernel_rfl) (by kernel_rfl) (by decide) (by kernel_rfl) (fun _ _ _ _ _ h => h) ?_
 generalize w1.drew = wa at *
 cases u with
 | false =>
  repeat (first | (refine SeqC.take (v := ?_) rfl (by rfl) (fun W hW => ?_) ?_; rotate_left; (focus (have zy0 := hW.get (by simp) y0; have zy1 := hW.get (by simp) y1; have zy2 := hW.get (by simp) y2; have zy3 := hW.get (by simp) y3; have zp1 := hW.get (by simp) p1; have zp2 := hW.get (by simp) p2; go_simp; with_reducible rfl)); simp only [Act.put, List.setIfInBounds_toArray, List.set_cons_zero, List.set_cons_succ]) | (refine SeqC.skip rfl (by rfl) ?_; simp only [Act.put, List.setIfInBounds_toArray, List.set_cons_zero, List.set_cons_succ]) | (refine SeqC.pass rfl (by rfl) ?_; simp only [Act.put, List.setIfInBounds_toArray, List.set_cons_zero, List.set_cons_succ]))
  refine SeqC.done ?_
  clear p1 p2 y0 y1 y2 y3
  go_wp2
  go_ret
  exact ⟨rfl, b01⟩
 | true =>
  have hkb : kilB D.bs true a n = (setN D.bs n == a) := rfl
  rw [hkb]
  iterate 9 (refine SeqC.take (v := ?_) rfl (by rfl) (fun W hW => ?_) ?_; rotate_left; (focus (have zy0 := hW.get (by simp) y0; have zy1 := hW.get (by simp) y1; have zy2 := hW.get (by simp) y2; have zy3 := hW.get (by simp) y3; have zp1 := hW.get (by simp) p1; have zp2 := hW.get (by simp) p2; go_simp; with_reducible rfl)); simp only [Act.put, List.setIfInBounds_toArray, List.set_cons_zero, List.set_cons_succ])
  refine SeqC.call (f := ?_) (args := ?_) rfl (by rfl) ?_ ?_
  rotate_left 2
  ·(go_simp; first | with_reducible rfl | (refine ⟨?_, ?_⟩ <;> with_reducible rfl))
  refine (HS.out _ b01).mono ?_
  rintro e w2 ⟨rfl, b2⟩
  refine ⟨_, rfl, Cells.of_ext b2 (by intro p hp; simp only [List.mem_cons, List.not_mem_nil, or_false] at hp; rcases hp with rfl | rfl | rfl | rfl | rfl | rfl <;> first | (show w.heap.size < wa.heap.size; omega) | (show w.heap.size + 1 < wa.heap.size; omega)), ?_⟩
  simp only [Act.put, List.setIfInBounds_toArray, List.set_cons_zero, List.set_cons_succ]
  have b02 := b01.trans (b2.mono b01.size)
  have y0 := (b2.cell (p := ⟨w.heap.size, 0, none⟩) (by show w.heap.size < wa.heap.size; omega)).trans y0
  have y1 := (b2.cell (p := ⟨w.heap.size, 1, none⟩) (by show w.heap.size < wa.heap.size; omega)).trans y1
  have y2 := (b2.cell (p := ⟨w.heap.size, 2, none⟩) (by show w.heap.size < wa.heap.size; omega)).trans y2
  have y3 := (b2.cell (p := ⟨w.heap.size, 3, none⟩) (by show w.heap.size < wa.heap.size; omega)).trans y3
  have p1 := (b2.cell (p := ⟨w.heap.size + 1, 1, none⟩) (by show w.heap.size + 1 < wa.heap.size; omega)).trans p1
  have p2 := (b2.cell (p := ⟨w.heap.size + 1, 2, none⟩) (by show w.heap.size + 1 < wa.heap.size; omega)).trans p2
  repeat (first | (refine SeqC.take (v := ?_) rfl (by rfl) (fun W hW => ?_) ?_; rotate_left; (focus (have zy0 := hW.get (by simp) y0; have zy1 := hW.get (by simp) y1; have zy2 := hW.get (by simp) y2; have zy3 := hW.get (by simp) y3; have zp1 := hW.get (by simp) p1; have zp2 := hW.get (by simp) p2; go_simp; with_reducible rfl)); simp only [Act.put, List.setIfInBounds_toArray, List.set_cons_zero, List.set_cons_succ]) | (refine SeqC.skip rfl (by rfl) ?_; simp only [Act.put, List.setIfInBounds_toArray, List.set_cons_zero, List.set_cons_succ]) | (refine SeqC.pass rfl (by rfl) ?_; simp only [Act.put, List.setIfInBounds_toArray, List.set_cons_zero, List.set_cons_succ]))
  refine SeqC.done ?_
  clear p1 p2 y0 y1 y2 y3
  go_wp2
  go_ret
  exact ⟨rfl, b02⟩
end Go.Proofs.YthdcahkedlijpaaGreat.loan
namespace Go.Proofs.YthdcahkedlijpaaGreat.loan
open Go.RowKit Go.Proofs.YthdcahkedlijpaaGreat Go.Proofs.YthdcahkedlijpaaGreat.Am
set_option linter.unusedVariables false
def ErrA (W : World) (x : Int) (e : Ending) (W' : World) : Prop := e = .returned (.tuple #[.slice none 0 0, .int .i64 x]) ∧ Below W.heap.size W W'
set_option maxRecDepth 100000 in
set_option maxHeartbeats 4000000 in
theorem kills_bad {w : World} {v : Value} {D : FnD} (h : FnOk' w v D) (hx : check.chkF D ≠ 0) (z : Int) : Calls Tryz.prog 13 #[v, .int .i64 z] w (ErrA w (check.chkF D)) := by
 have hC : ChkIs w v (check.chkF D) := chk_is h
 have hA := fun w1 (hb : Below w.heap.size w w1) => lall_bad (h.frz hb.block) hx (hC.more hb)
 rw [h.eq] at hA ⊢
 have HA := Lib.hid hA
 have hx' : (check.chkF D != 0) = true := by simpa using hx
 clear hA hC h
 generalize check.chkF D = x at *
 have b0 : Below w.heap.size w (w.alloc (.cells #[.int .i64 D.p, .bool D.u, D.lv, D.bv] tF)) := (Below.refl _ _).alloc (Nat.le_refl _) _
 go_enter Tryz.func13, Tryz.ntmps13
 go_wp2_with (go_at_call 11; refine (HA.out _ b0).mono ?_; rintro e w1 ⟨rfl, b1⟩)
 go_ret2
 exact ⟨rfl, b0.trans (b1.mono b0.size)⟩
set_option maxRecDepth 100000 in
set_option maxHeartbeats 4000000 in
theorem kills_out {w : World} {v : Value} {D : FnD} (h : FnOk' w v D) (hc : check.chkF D = 0) {z : Int} (hz : z < 0 ∨ ((lns D.bs (sizeN D)).length : Int) ≤ z) : Calls Tryz.prog 13 #[v, .int .i64 z] w (ErrA w 2) := by
 have hsm := small_of hc
 have hC : ChkIs w v 0 := hc ▸ chk_is h
 have hA := fun w1 (hb : Below w.heap.size w w1) => lall_c (h.frz hb.block) hsm (hC.more hb)
 rw [h.eq] at hA ⊢
 have HA := Lib.hid hA
 clear hA hC h hc hsm
 have b0 : Below w.heap.size w (w.alloc (.cells #[.int .i64 D.p, .bool D.u, D.lv, D.bv] tF)) := (Below.refl _ _).alloc (Nat.le_refl _) _
 by_cases h0 : z < 0
 ·clear hz
  go_enter Tryz.func13, Tryz.ntmps13
  go_wp2_with (go_at_call 11; refine (HA.out _ b0).mono ?_; rintro e w1 ⟨s1, rfl, hl1⟩; obtain ⟨Al, cl, rfl, hrl⟩ := hl1.read (by decide) (fun x hx => lns_6 hx))
  go_ret2
  exact ⟨rfl, b0.trans (hl1.2.mono b0.size)⟩
 ·have hge : ((lns D.bs (sizeN D)).length : Int) ≤ z := hz.resolve_left h0
  have hd : decide (z ≥ ((lns D.bs (sizeN D)).length : Int)) = true := decide_eq_true hge
  have hd0 : decide (z < 0) = false := decide_eq_false h0
  clear hz
  go_enter Tryz.func13, Tryz.ntmps13
  go_wp2_with (go_at_call 11; refine (HA.out _ b0).mono ?_; rintro e w1 ⟨s1, rfl, hl1⟩; obtain ⟨Al, cl, rfl, hrl⟩ := hl1.read (by decide) (fun x hx => lns_6 hx))
  go_ret2
  exact ⟨rfl, b0.trans (hl1.2.mono b0.size)⟩
set_option maxRecDepth 100000 in
set_option maxHeartbeats 4000000 in
theorem all21_bad {w : World} {v : Value} {D : FnD} (h : FnOk' w v D) (hx : check.chkF D ≠ 0) : Calls Tryz.prog 12 #[v] w (ErrA w (check.chkF D)) := by
 have hC : ∀ w1, Below w.heap.size w w1 → Calls Tryz.prog 21 #[v] w1 (Ans1 w1 (.int .i64 (check.chkF D))) := fun w1 hb => refC.check_same (h.frz hb.block)
 rw [h.eq] at hC ⊢
 have HC := Lib.hid hC
 have hx' : (check.chkF D != 0) = true := by simpa using hx
 clear hC h
 generalize check.chkF D = x at *
 have b0 : Below w.heap.size w (w.alloc (.cells #[.int .i64 D.p, .bool D.u, D.lv, D.bv] tF)) := (Below.refl _ _).alloc (Nat.le_refl _) _
 go_enter Tryz.func12, Tryz.ntmps12
 go_wp2_with (go_at_call 21; refine (HC.out _ b0).mono ?_; rintro e w1 ⟨rfl, b1⟩)
 go_ret2
 exact ⟨rfl, b0.trans (b1.mono b0.size)⟩
set_option maxRecDepth 100000 in
set_option maxHeartbeats 4000000 in
theorem kills21_bad {w : World} {v : Value} {D : FnD} (h : FnOk' w v D) (hx : check.chkF D ≠ 0) (z : Int) : Calls Tryz.prog 14 #[v, .int .i64 z] w (ErrA w (check.chkF D)) := by
 have hA := fun w1 (hb : Below w.heap.size w w1) => all21_bad (h.frz hb.block) hx
 rw [h.eq] at hA ⊢
 have HA := Lib.hid hA
 have hx' : (check.chkF D != 0) = true := by simpa using hx
 clear hA h
 generalize check.chkF D = x at *
 have b0 : Below w.heap.size w (w.alloc (.cells #[.int .i64 D.p, .bool D.u, D.lv, D.bv] tF)) := (Below.refl _ _).alloc (Nat.le_refl _) _
 go_enter Tryz.func14, Tryz.ntmps14
 go_wp2_with (go_at_call 12; refine (HA.out _ b0).mono ?_; rintro e w1 ⟨rfl, b1⟩)
 go_ret2
 exact ⟨rfl, b0.trans (b1.mono b0.size)⟩
def FoundC (D : FnD) (w : World) (v : Value) : Prop := ∀ w1, Below w.heap.size w w1 → Calls Tryz.prog 32 #[v] w1 fun e w' => ∃ s, e = .returned s ∧ NewL tLn 6 (lns D.bs (sizeN D)) w1 s w'
set_option maxRecDepth 100000 in
set_option maxHeartbeats 4000000 in
theorem all21_c {w : World} {v : Value} {D : FnD} (h : FnOk' w v D) (hc : check.chkF D = 0) (hF : FoundC D w v) : Calls Tryz.prog 12 #[v] w (NewE tLn 6 (lns D.bs (sizeN D)) w) := by
 have hC : ∀ w1, Below w.heap.size w w1 → Calls Tryz.prog 21 #[v] w1 (Ans1 w1 (.int .i64 0)) := fun w1 hb => hc ▸ refC.check_same (h.frz hb.block)
 unfold FoundC at hF
 rw [h.eq] at hC hF ⊢
 have HC := Lib.hid hC
 have HF := Lib.hid hF
 clear hC hF h hc
 have B0 : Box (w.alloc (.cells #[.int .i64 D.p, .bool D.u, D.lv, D.bv] tF)) w.heap.size tF (.int .i64 D.p) (.bool D.u) D.lv D.bv := Box.mk rfl
 have b0 : Below w.heap.size w (w.alloc (.cells #[.int .i64 D.p, .bool D.u, D.lv, D.bv] tF)) := (Below.refl _ _).alloc (Nat.le_refl _) _
 go_enter Tryz.func12, Tryz.ntmps12
 go_wp2_with (first | (go_at_call 21; refine (HC.out _ b0).mono ?_; rintro e w1 ⟨rfl, b1⟩; obtain ⟨y0, y1, y2, y3⟩ := (B0.below b1).cells) | (go_at_call 32; refine (HF.out _ (b0.trans (b1.mono b0.size))).mono ?_; rintro e w2 ⟨s, rfl, hown, b2⟩))
 go_ret2
 have b01 := b0.trans (b1.mono b0.size)
 exact ⟨_, rfl, owns_base hown b01.size, b01.trans (b2.mono b01.size)⟩
set_option maxRecDepth 100000 in
set_option maxHeartbeats 4000000 in
theorem kills21_out {w : World} {v : Value} {D : FnD} (h : FnOk' w v D) (hc : check.chkF D = 0) (hF : FoundC D w v) {z : Int} (hz : z < 0 ∨ ((lns D.bs (sizeN D)).length : Int) ≤ z) : Calls Tryz.prog 14 #[v, .int .i64 z] w (ErrA w 2) := by
 have hA := fun w1 (hb : Below w.heap.size w w1) => all21_c (h.frz hb.block) hc (fun w2 h2 => hF w2 (hb.trans (h2.mono hb.size)))
 unfold FoundC at hF
 rw [h.eq] at hA ⊢
 have HA := Lib.hid hA
 clear hA h hc hF
 have b0 : Below w.heap.size w (w.alloc (.cells #[.int .i64 D.p, .bool D.u, D.lv, D.bv] tF)) := (Below.refl _ _).alloc (Nat.le_refl _) _
 by_cases h0 : z < 0
 ·clear hz
  go_enter Tryz.func14, Tryz.ntmps14
  go_wp2_with (go_at_call 12; refine (HA.out _ b0).mono ?_; rintro e w1 ⟨s1, rfl, hl1⟩; obtain ⟨Al, cl, rfl, hrl⟩ := hl1.read (by decide) (fun x hx => lns_6 hx))
  go_ret2
  exact ⟨rfl, b0.trans (hl1.2.mono b0.size)⟩
 ·have hge : ((lns D.bs (sizeN D)).length : Int) ≤ z := hz.resolve_left h0
  have hd : decide (z ≥ ((lns D.bs (sizeN D)).length : Int)) = true := decide_eq_true hge
  have hd0 : decide (z < 0) = false := decide_eq_false h0
  clear hz
  go_enter Tryz.func14, Tryz.ntmps14
  go_wp2_with (go_at_call 12; refine (HA.out _ b0).mono ?_; rintro e w1 ⟨s1, rfl, hl1⟩; obtain ⟨Al, cl, rfl, hrl⟩ := hl1.read (by decide) (fun x hx => lns_6 hx))
  go_ret2
  exact ⟨rfl, b0.trans (hl1.2.mono b0.size)⟩
end Go.Proofs.YthdcahkedlijpaaGreat.loan
