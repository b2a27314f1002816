/- pawnshopref11.Asked and pawnshopref12.Line. pawnshopref07.Great and Twin, of any function that is not great; what a copy keeps. -/
import Derived.Test.YtglmonlofejcgaaGreatDoorTextO
import Derived.Test.YtglmonlofejcgaaGreatDoorOwn
set_option linter.unusedVariables false
namespace Go.Proofs.YtglmonlofejcgaaGreatDoor.txt
open Go.RowKit Am loan bld
set_option maxRecDepth 100000 in
set_option maxHeartbeats 4000000 in
theorem a6o {w : World} {v : Value} {D : FnD} (h : aT w v D) {c x y : Int} (hx : c ≠ 0) (hC : kK 24 w v c) : Calls Tryz.prog 26 #[v, .agg #[.int .i64 x, .int .i64 y]] w (bld.Ans w (.int .i64 c)) := by
 unfold kK at hC
 rw [h.eq] at hC |-
 have hx' : (c != 0) = true := by simpa using hx
 have HC := Lib.hid hC
 clear hC h
 obtain ⟨w1, hw1⟩ : ∃ w1, w1 = (w.alloc (.cells #[.int .i64 D.p, .bool D.u, D.lv, D.bv] tFn)).alloc (.cells #[.int .i64 x, .int .i64 y] tPt) := ⟨_, rfl⟩
 have b1 : Below w.heap.size w w1 := by rw [hw1]; exact ((Below.refl _ _).alloc (Nat.le_refl _) _).alloc (by simp) _
 have B1 : Box w1 w.heap.size tFn (.int .i64 D.p) (.bool D.u) D.lv D.bv := by rw [hw1]; exact (Box.mk rfl).more
 have P1 : w1.heap[w.heap.size + 1]? = some (.cells #[.int .i64 x, .int .i64 y] tPt (0, 0)) := by rw [hw1]; exact cu (by simp)
 go_enter Tryz.func26, Tryz.ntmps26
 go_upto_region 2 with (rw [<- hw1]; go_at_call 24; refine (HC.out _ b1).mono ?_; rintro e w2 ⟨rfl, b2⟩)
 obtain ⟨y0, y1, y2, y3⟩ := (B1.below b2).cells
 have HB := Lib.hid (b1.trans (b2.mono b1.size))
 clear hw1 b1 b2 B1 P1
 go_wp2_with (go_at_call 24; refine (HC.out _ HB.out).mono ?_; rintro e w3 ⟨rfl, b3⟩)
 go_ret
 exact ⟨rfl, HB.out.trans (b3.mono HB.out.size)⟩
set_option maxRecDepth 100000 in
set_option maxHeartbeats 4000000 in
theorem a0n {w : World} {v : Value} {D : FnD} (h : aT w v D) {x y r a : Int} (hC : kK 24 w v 0) (hA : ∀ w1, Below w.heap.size w w1 -> Calls Tryz.prog 27 #[v, .agg #[.int .i64 x, .int .i64 y]] w1 (bld.Ans w1 (.int .i64 r)))
  (hr : (r < 0 /\ a = 2) \/ (0 <= r /\ a = 0)) : Calls Tryz.prog 26 #[v, .agg #[.int .i64 x, .int .i64 y]] w (bld.Ans w (.int .i64 a)) := by
 unfold kK at hC
 rw [h.eq] at hC hA |-
 have HC := Lib.hid hC
 have HA := Lib.hid hA
 clear hC hA h
 obtain ⟨w1, hw1⟩ : ∃ w1, w1 = (w.alloc (.cells #[.int .i64 D.p, .bool D.u, D.lv, D.bv] tFn)).alloc (.cells #[.int .i64 x, .int .i64 y] tPt) := ⟨_, rfl⟩
 have b1 : Below w.heap.size w w1 := by rw [hw1]; exact ((Below.refl _ _).alloc (Nat.le_refl _) _).alloc (by simp) _
 have B1 : Box w1 w.heap.size tFn (.int .i64 D.p) (.bool D.u) D.lv D.bv := by rw [hw1]; exact (Box.mk rfl).more
 have P1 : w1.heap[w.heap.size + 1]? = some (.cells #[.int .i64 x, .int .i64 y] tPt (0, 0)) := by rw [hw1]; exact cu (by simp)
 go_enter Tryz.func26, Tryz.ntmps26
 go_upto_region 3 with (rw [<- hw1]; go_at_call 24; refine (HC.out _ b1).mono ?_; rintro e w2 ⟨rfl, b2⟩)
 have P2 := (b2.block _ (Array.getElem?_eq_some_iff.1 P1).1).trans P1
 obtain ⟨y0, y1, y2, y3⟩ := (B1.below b2).cells
 have p0 : w2.cell? ⟨w.heap.size + 1, 0, none⟩ = some (.int .i64 x) := by rw [cell_of_row w2 _ 0 _ tPt (0, 0) P2]; rfl
 have p1 : w2.cell? ⟨w.heap.size + 1, 1, none⟩ = some (.int .i64 y) := by rw [cell_of_row w2 _ 1 _ tPt (0, 0) P2]; rfl
 have HB := Lib.hid (b1.trans (b2.mono b1.size))
 clear hw1 b1 b2 B1 P1 P2
 rcases hr with ⟨h0, rfl⟩ | ⟨h0, rfl⟩
 ·go_wp2_with (go_at_call 27; refine (HA.out _ HB.out).mono ?_; rintro e w3 ⟨rfl, b3⟩)
  go_ret
  exact ⟨rfl, HB.out.trans (b3.mono HB.out.size)⟩
 ·have hd : ¬ r < 0 := by omega
  go_wp2_with (go_at_call 27; refine (HA.out _ HB.out).mono ?_; rintro e w3 ⟨rfl, b3⟩)
  go_ret
  exact ⟨rfl, HB.out.trans (b3.mono HB.out.size)⟩
set_option maxRecDepth 100000 in
set_option maxHeartbeats 4000000 in
theorem Ui {w : World} {v : Value} {D : FnD} (h : aT w v D) {c x y : Int} (hx : c ≠ 0) (hQ : ∀ w1, Below w.heap.size w w1 -> Calls Tryz.prog 26 #[v, .agg #[.int .i64 x, .int .i64 y]] w1 (bld.Ans w1 (.int .i64 c))) :
  Calls Tryz.prog 12 #[v, .agg #[.int .i64 x, .int .i64 y]] w (Hz 0 c w) := by
 rw [h.eq] at hQ |-
 have hx' : (c != 0) = true := by simpa using hx
 have HC := Lib.hid hQ
 clear hQ h
 obtain ⟨w1, hw1⟩ : ∃ w1, w1 = (w.alloc (.cells #[.int .i64 D.p, .bool D.u, D.lv, D.bv] tFn)).alloc (.cells #[.int .i64 x, .int .i64 y] tPt) := ⟨_, rfl⟩
 have b1 : Below w.heap.size w w1 := by rw [hw1]; exact ((Below.refl _ _).alloc (Nat.le_refl _) _).alloc (by simp) _
 have B1 : Box w1 w.heap.size tFn (.int .i64 D.p) (.bool D.u) D.lv D.bv := by rw [hw1]; exact (Box.mk rfl).more
 have P1 : w1.heap[w.heap.size + 1]? = some (.cells #[.int .i64 x, .int .i64 y] tPt (0, 0)) := by rw [hw1]; exact cu (by simp)
 go_enter Tryz.func12, Tryz.ntmps12
 go_upto_region 2 with (rw [<- hw1]; go_at_call 26; refine (HC.out _ b1).mono ?_; rintro e w2 ⟨rfl, b2⟩)
 have P2 := (b2.block _ (Array.getElem?_eq_some_iff.1 P1).1).trans P1
 obtain ⟨y0, y1, y2, y3⟩ := (B1.below b2).cells
 have p0 : w2.cell? ⟨w.heap.size + 1, 0, none⟩ = some (.int .i64 x) := by rw [cell_of_row w2 _ 0 _ tPt (0, 0) P2]; rfl
 have p1 : w2.cell? ⟨w.heap.size + 1, 1, none⟩ = some (.int .i64 y) := by rw [cell_of_row w2 _ 1 _ tPt (0, 0) P2]; rfl
 have HB := Lib.hid (b1.trans (b2.mono b1.size))
 clear hw1 b1 b2 B1 P1 P2
 go_wp2_with (go_at_call 26; refine (HC.out _ HB.out).mono ?_; rintro e w3 ⟨rfl, b3⟩)
 go_ret2
 exact ⟨rfl, HB.out.trans (b3.mono HB.out.size)⟩
set_option maxRecDepth 100000 in
set_option maxHeartbeats 4000000 in
theorem ahG {w : World} {v : Value} {D : FnD} (h : aT w v D) (hL : Lim D) {x y r : Int} (hx0 : 0 <= x) (hx1 : x <= 1000) (hr0 : 0 <= r) (hr1 : r <= 1000) (hQ : ∀ w1, Below w.heap.size w w1 -> Calls Tryz.prog 26 #[v, .agg #[.int .i64 x, .int .i64 y]] w1 (bld.Ans w1 (.int .i64 0)))
  (hA : ∀ w1, Below w.heap.size w w1 -> Calls Tryz.prog 27 #[v, .agg #[.int .i64 x, .int .i64 y]] w1 (bld.Ans w1 (.int .i64 r))) :
  Calls Tryz.prog 12 #[v, .agg #[.int .i64 x, .int .i64 y]] w (Hz (1 + (D.ls.length : Int) + r + x + 1) 0 w) := by
 obtain ⟨Al, cl, el, hml, hrl⟩ := bV.rows h.locals (by decide)
 have hnl := hL.l
 rw [h.eq] at hQ hA |-
 rw [el] at hQ hA |-
 have HC := Lib.hid hQ
 have HA := Lib.hid hA
 clear hQ hA h el hL hrl
 obtain ⟨w1, hw1⟩ : ∃ w1, w1 = (w.alloc (.cells #[.int .i64 D.p, .bool D.u, .slice Al D.ls.length cl, D.bv] tFn)).alloc (.cells #[.int .i64 x, .int .i64 y] tPt) := ⟨_, rfl⟩
 have b1 : Below w.heap.size w w1 := by rw [hw1]; exact ((Below.refl _ _).alloc (Nat.le_refl _) _).alloc (by simp) _
 have B1 : Box w1 w.heap.size tFn (.int .i64 D.p) (.bool D.u) (.slice Al D.ls.length cl) D.bv := by rw [hw1]; exact (Box.mk rfl).more
 have P1 : w1.heap[w.heap.size + 1]? = some (.cells #[.int .i64 x, .int .i64 y] tPt (0, 0)) := by rw [hw1]; exact cu (by simp)
 go_enter Tryz.func12, Tryz.ntmps12
 go_upto_region 3 with (rw [<- hw1]; go_at_call 26; refine (HC.out _ b1).mono ?_; rintro e w2 ⟨rfl, b2⟩)
 have P2 := (b2.block _ (Array.getElem?_eq_some_iff.1 P1).1).trans P1
 have B2 := B1.below b2
 have hlt := (Array.getElem?_eq_some_iff.1 P2).1
 have HB := Lib.hid (b1.trans (b2.mono b1.size))
 refine dI [⟨w.heap.size, 0, none⟩, ⟨w.heap.size, 1, none⟩, ⟨w.heap.size, 2, none⟩, ⟨w.heap.size, 3, none⟩, ⟨w.heap.size + 1, 0, none⟩, ⟨w.heap.size + 1, 1, none⟩] [(0, true), (1, true), (2, true), (3, true), (4, true), (5, true), (8, true), (9, true), (6, false), (7, true), (10, true), (11, true), (12, true), (13, true)] (by kernel_rfl) (by kernel_rfl) (by decide) (by kernel_rfl) (fun _ _ _ _ _ h => h) ?_
 have P3 : w2.drew.heap[w.heap.size + 1]? = _ := P2
 have B3 : Box w2.drew w.heap.size tFn (.int .i64 D.p) (.bool D.u) (.slice Al D.ls.length cl) D.bv := B2
 have hlt : w.heap.size + 1 < w2.drew.heap.size := hlt
 have HB3 := Lib.hid HB.out.drew
 generalize w2.drew = wd at P3 B3 hlt HB3 |-
 obtain ⟨y0, y1, y2, y3⟩ := B3.cells
 have p0 : wd.cell? ⟨w.heap.size + 1, 0, none⟩ = some (.int .i64 x) := by rw [cell_of_row wd _ 0 _ tPt (0, 0) P3]; rfl
 have p1 : wd.cell? ⟨w.heap.size + 1, 1, none⟩ = some (.int .i64 y) := by rw [cell_of_row wd _ 1 _ tPt (0, 0) P3]; rfl
 clear hw1 b1 b2 B1 P1 P2 B2 P3 B3 HB
 iterate 8 (refine SeqC.take (v := ?_) rfl (by rfl) (fun W hW => ?_) ?_; rotate_left; (focus (have zy0 := hW.get (by simp) y0; have zy1 := hW.get (by simp) y1; have zy2 := hW.get (by simp) y2; have zy3 := hW.get (by simp) y3; have zp0 := hW.get (by simp) p0; have zp1 := hW.get (by simp) p1; go_simp; with_reducible rfl)); simp only [Act.put, List.setIfInBounds_toArray, List.set_cons_zero, List.set_cons_succ])
 refine SeqC.call (f := ?_) (args := ?_) rfl (by rfl) ?_ ?_
 rotate_left 2
 ·(go_simp; first | with_reducible rfl | (refine ⟨?_, ?_⟩ <;> with_reducible rfl))
 refine (HA.out _ HB3.out).mono ?_
 rintro e w3 ⟨rfl, b3⟩
 refine ⟨_, rfl, Cells.yw b3 (by intro p hp; simp only [List.mem_cons, List.not_mem_nil, or_false] at hp; rcases hp with rfl | rfl | rfl | rfl | rfl | rfl <;> first | (show w.heap.size < wd.heap.size; omega) | (show w.heap.size + 1 < wd.heap.size; omega)), ?_⟩
 simp only [Act.put, List.setIfInBounds_toArray, List.set_cons_zero, List.set_cons_succ]
 clear y0 y1 y2 y3 p0 p1
 have e1 : IntKind.i64.wrap (1 + (D.ls.length : Int)) = 1 + (D.ls.length : Int) := IntWalk.i64_in _ (by omega)
 have e2 : IntKind.i64.wrap (1 + (D.ls.length : Int) + r) = 1 + (D.ls.length : Int) + r := IntWalk.i64_in _ (by omega)
 have e3 : IntKind.i64.wrap (1 + (D.ls.length : Int) + r + x) = 1 + (D.ls.length : Int) + r + x := IntWalk.i64_in _ (by omega)
 have e4 : IntKind.i64.wrap (1 + (D.ls.length : Int) + r + x + 1) = 1 + (D.ls.length : Int) + r + x + 1 := IntWalk.i64_in _ (by omega)
 iterate 5 (refine SeqC.take (v := ?_) rfl (by rfl) (fun W hW => ?_) ?_; rotate_left; (focus (go_simp; with_reducible rfl)); simp only [Act.put, List.setIfInBounds_toArray, List.set_cons_zero, List.set_cons_succ])
 refine SeqC.done ?_
 go_wp2_with fail
 go_ret2
 exact ⟨by simp only [e1]; rfl, HB3.out.trans (b3.mono HB3.out.size)⟩
open Go.RowKit Am loan bld
theorem a1H {w : World} {v : Value} {D : FnD} (h : aT w v D) : Calls Tryz.prog 7 #[v] w (bld.Ans w (.bool (great.wE D))) := great.a4r h
structure Low (D : FnD) : Prop where
 l : D.ls.length <= 30
 b : D.bs.length <= 30
 s : ∀ b ∈ D.bs, b.st.length <= 30
 o : ∀ b ∈ D.bs, b.ops.length <= 12
theorem ajH {D : FnD} (h : great.wE D = false) : Low D := by
 unfold great.wE great.adP at h
 simp only [Bool.or_eq_false_iff, Bool.not_eq_false', decide_eq_true_eq] at h
 obtain ⟨⟨h1, h2⟩, h3⟩ := h
 have h4 : ∀ b ∈ D.bs, great.FQ b = false := fun b hb => by simpa using List.any_eq_false.1 h3 b hb
 refine ⟨by omega, by omega, fun b hb => ?_, fun b hb => ?_⟩ <;>
 ·have := h4 b hb
  unfold great.FQ at this
  simp only [Bool.or_eq_false_iff, Bool.not_eq_false', decide_eq_true_eq] at this
  omega
def Twin (D : FnD) (W : World) (e : Ending) (W' : World) : Prop := ∃ v' D', e = .returned v' /\ aT W' v' D' /\ D'.core = D.core /\ Below W.heap.size W W'
theorem aje {w : World} {v : Value} {D : FnD} (h : aT w v D) (hl : Low D) : Calls Tryz.prog 8 #[v] w (Twin D w) := by
 refine (twin.any h hl.l hl.b (fun el he => oU (h.lkd el he)) (fun b hb el he => oU (hb.skd el he)) (fun b hb el he => oU (hb.okd el he)) hl.s (fun b hb => by have := hl.o b hb; omega)).mono ?_
 rintro e w' ⟨g, c, bv', Bs, he, hf, hb'⟩
 obtain ⟨h1, h2⟩ := own.acp hf
 exact ⟨_, _, he, own.pI.ok h1 ((own.Kinds.of h).core h2), h2, hb'⟩
theorem Ip {D D' : FnD} (h : D'.core = D.core) : D'.p = D.p /\ D'.u = D.u /\ D'.ls = D.ls /\ D'.bs.map bH.core = D.bs.map bH.core := by
 unfold FnD.core at h
 injection h with h1 h2 _ _ h3 h4
 exact ⟨h1, h2, h3, h4⟩
theorem a2Q (i : Nat) {b b' : bH} (h : b'.core = b.core) : X0 i b' = X0 i b := by
 unfold bH.core at h
 injection h with _ h1 _ h2 h3 h4
 unfold X0 jmL
 rw [h1, h2, h3, h4]
theorem abY {D D' : FnD} (h : D'.bs.map bH.core = D.bs.map bH.core) (i : Nat) : (D'.bs.getD i noB).core = (D.bs.getD i noB).core := by
 have hi := congrArg (fun l => l[i]?) h
 simp only [List.getElem?_map] at hi
 rw [List.getD_eq_getElem?_getD, List.getD_eq_getElem?_getD]
 cases h1 : D'.bs[i]? <;> cases h2 : D.bs[i]? <;> rw [h1, h2] at hi <;> simp_all
theorem xE {D D' : FnD} (h : D'.bs.map bH.core = D.bs.map bH.core) : D'.bs.length = D.bs.length := by simpa using congrArg List.length h
theorem a3E {D D' : FnD} (h : D'.core = D.core) (n : Int) : textF D' n = textF D n := by
 obtain ⟨h1, h2, h3, h4⟩ := Ip h
 have hb : ∀ i, nY D' i = nY D i := fun i => by
  unfold nY
  congr 1
  funext k
  exact a2Q k (abY h4 k)
 unfold textF BK rQ
 rw [h1, h2, h3, hb, xE h4]
theorem Js {bs bs' : List bH} (h : ∀ i, lY bs' i = lY bs i) : ∀ i, dF bs' i = dF bs i
 | 0 => rfl
 | i + 1 => by
  show dF bs' i + (lY bs' i + 1) = dF bs i + (lY bs i + 1)
  rw [Js h i, h i]
theorem EW {D D' : FnD} (h : D'.bs.map bH.core = D.bs.map bH.core) (i : Nat) : lY D'.bs i = lY D.bs i := by
 have hi := congrArg (fun l => l[i]?) h
 simp only [List.getElem?_map] at hi
 unfold lY
 rw [List.getD_eq_getElem?_getD, List.getD_eq_getElem?_getD]
 cases h1 : D'.bs[i]? with
 | none =>
  cases h2 : D.bs[i]? with
  | none => rfl
  | some y => rw [h1, h2] at hi; cases hi
 | some x =>
  cases h2 : D.bs[i]? with
  | none => rw [h1, h2] at hi; cases hi
  | some y =>
   rw [h1, h2] at hi
   have hi := Option.some.inj hi
   unfold bH.core at hi
   injection hi with _ _ _ _ h5 _
   exact congrArg List.length h5
end Go.Proofs.YtglmonlofejcgaaGreatDoor.txt
