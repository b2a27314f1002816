/- pawnshopref05.Set, 06.Set, 15.Whole, 15.Jump and 16.Set, by their contracts: which local a point sets, by the reference. -/
import Derived.Test.YthdcahkedlijpaaGreatLoanV
namespace Go.Proofs.YthdcahkedlijpaaGreat.loan
open Go.RowKit Go.Proofs.YthdcahkedlijpaaGreat Go.Proofs.YthdcahkedlijpaaGreat.Am
set_option linter.unusedVariables false
theorem whole5_c (W : World) (x : Int) (d : Bool) (y : Int) : Calls Tryz.prog 97 #[.agg #[.int .i64 x, .bool d, .int .u8 y]] W (Ans1 W (.bool (!d && decide (y = 0)))) := by
 cases d with
 | true =>
  go_enter Tryz.func97, Tryz.ntmps97
  go_wp2
  go_ret
  exact ⟨rfl, (Below.refl _ _).alloc (Nat.le_refl _) _⟩
 | false =>
  by_cases hy : y = 0
  ·subst hy
   go_enter Tryz.func97, Tryz.ntmps97
   go_wp2
   go_ret
   exact ⟨rfl, (Below.refl _ _).alloc (Nat.le_refl _) _⟩
  ·have hy' : (y == 0) = false := by simpa using hy
   rw [decide_eq_false hy]
   go_enter Tryz.func97, Tryz.ntmps97
   go_wp2
   go_ret
   exact ⟨rfl, (Below.refl _ _).alloc (Nat.le_refl _) _⟩
theorem whole15_c (W : World) (x : Int) (d : Bool) (y : Int) : Calls Tryz.prog 48 #[.agg #[.int .i64 x, .bool d, .int .u8 y]] W (Ans1 W (.bool (!d && decide (y = 0)))) := by
 cases d with
 | true =>
  go_enter Tryz.func48, Tryz.ntmps48
  go_wp2
  go_ret
  exact ⟨rfl, (Below.refl _ _).alloc (Nat.le_refl _) _⟩
 | false =>
  by_cases hy : y = 0
  ·subst hy
   go_enter Tryz.func48, Tryz.ntmps48
   go_wp2
   go_ret
   exact ⟨rfl, (Below.refl _ _).alloc (Nat.le_refl _) _⟩
  ·have hy' : (y == 0) = false := by simpa using hy
   rw [decide_eq_false hy]
   go_enter Tryz.func48, Tryz.ntmps48
   go_wp2
   go_ret
   exact ⟨rfl, (Below.refl _ _).alloc (Nat.le_refl _) _⟩
set_option maxRecDepth 100000 in
set_option maxHeartbeats 4000000 in
theorem set5_c {W : World} {el : List Value} (h : All2 Kd.ok kS26 el) : Calls Tryz.prog 72 #[.agg el.toArray] W (Ans1 W (.int .i64 (setI el))) := by
 obtain ⟨u25, hu, hk25⟩ := All2.nth h (n := 25) (x := .i .i64) rfl
 obtain ⟨x25, rfl, _⟩ := hk25
 obtain ⟨x0, x1, x3, x4, x6, x17, x19, d2, d18, v5, v7, v8, v9, v10, v11, v12, v13, v14, v15, v16, v20, v21, v22, v23, v24, v25, hel, hone⟩ := stm_open h
 have hs : setI el = if x0 = 3 then x25 else if x0 = 1 ∧ (decide (codeI (.bool d2) = 0) && decide (x3 = 0)) = true then x1 else -1 := by
  have e25 : cellI el 25 = x25 := by unfold cellI; rw [hu]; rfl
  unfold setI
  rw [e25, hel]
  rfl
 generalize setI el = R at hs ⊢
 have HP := Lib.hid whole5_c
 obtain ⟨wa, hwa⟩ : ∃ wa, wa = W.alloc (.cells el.toArray 51) := ⟨_, rfl⟩
 have b0 : Below W.heap.size W wa := by rw [hwa]; exact (Below.refl _ _).alloc (Nat.le_refl _) _
 have hlt : W.heap.size < wa.heap.size := by rw [hwa]; simp
 have hce : ∀ f u, el[f]? = some u → wa.cell? ⟨W.heap.size, f, none⟩ = some u := fun f u hu => by
  rw [hwa, cell_of_row _ W.heap.size f _ tS (0, 0) (at_alloc rfl)]
  simpa using hu
 have e0 := hce 0 (.int .u8 x0) (by rw [hel]; rfl)
 have e1 := hce 1 (.int .i64 x1) (by rw [hel]; rfl)
 have e2 := hce 2 (.bool d2) (by rw [hel]; rfl)
 have e3 := hce 3 (.int .u8 x3) (by rw [hel]; rfl)
 have e25 := hce 25 (.int .i64 x25) hu
 clear hce hel hone hu h
 have fin : ∀ (r : Int) (w' : World), Below wa.heap.size wa w' → R = r → Ans1 W (.int .i64 R) (.returned (.int .i64 r)) w' := fun r w' hb hr => ⟨by rw [hr], b0.trans (hb.mono b0.size)⟩
 have HRS := Lib.hid hs
 clear hs
 have HFIN := Lib.hid fin
 clear fin
 go_enter Tryz.func72, Tryz.ntmps72
 go_upto_region 1 with fail
 rw [← hwa]
 clear hwa
 by_cases h3 : x0 = 3
 ·subst h3
  go_wp2
  go_ret
  exact HFIN.out _ _ (Below.refl _ _) (by rw [HRS.out]; rfl)
 ·have n3 : (x0 == 3) = false := by simpa using h3
  by_cases h1 : x0 = 1
  ·subst h1
   cases d2 with
   | true =>
    go_wp2_with (go_at_call 97; refine (HP.out _ _ _ _).mono ?_; rintro e w2 ⟨rfl, b2⟩; have g0 := (b2.cell (p := ⟨W.heap.size, 0, none⟩) hlt).trans e0)
    go_ret
    exact HFIN.out _ _ b2 (by rw [HRS.out]; rfl)
   | false =>
    by_cases hz : x3 = 0
    ·subst hz
     go_wp2_with (go_at_call 97; refine (HP.out _ _ _ _).mono ?_; rintro e w2 ⟨rfl, b2⟩; have g1 := (b2.cell (p := ⟨W.heap.size, 1, none⟩) hlt).trans e1)
     go_ret
     exact HFIN.out _ _ b2 (by rw [HRS.out]; rfl)
    ·have nz : decide (x3 = 0) = false := decide_eq_false hz
     have nz2 : (x3 == 0) = false := by simpa using hz
     have nz3 : ¬ x3 = 0 := hz
     go_wp2_with (go_at_call 97; refine (HP.out _ _ _ _).mono ?_; rintro e w2 ⟨rfl, b2⟩; have g0 := (b2.cell (p := ⟨W.heap.size, 0, none⟩) hlt).trans e0)
     go_ret
     exact HFIN.out _ _ b2 (by rw [HRS.out, if_neg (by decide), if_neg (by rw [nz]; simp)])
  ·have n1 : (x0 == 1) = false := by simpa using h1
   go_wp2
   go_ret
   exact HFIN.out _ _ (Below.refl _ _) (by rw [HRS.out, if_neg h3, if_neg (fun q => h1 q.1)])
set_option maxRecDepth 100000 in
set_option maxHeartbeats 4000000 in
theorem set6_c {W : World} {pre post : List Value} {a : Value} (h1 : All2 Kd.ok kPre pre) (h2 : All2 Kd.ok kPost post) : Calls Tryz.prog 73 #[.agg (pre ++ a :: post).toArray] W (Ans1 W (.int .i64 (setJ pre post))) := by
 have HP := Lib.hid whole5_c
 obtain ⟨v0, l0, rfl, ⟨x0, rfl, _⟩, k0⟩ := all2_cons' h1
 obtain ⟨v1, l1, rfl, ⟨x1, rfl, _⟩, k1⟩ := all2_cons' k0
 obtain ⟨v2, l2, rfl, ⟨x2, rfl, _⟩, k2⟩ := all2_cons' k1
 obtain ⟨v3, l3, rfl, ⟨x3, rfl, _⟩, k3⟩ := all2_cons' k2
 obtain ⟨v4, l4, rfl, ⟨d4, rfl⟩, k4⟩ := all2_cons' k3
 obtain ⟨v5, l5, rfl, ⟨x5, rfl, _⟩, k5⟩ := all2_cons' k4
 obtain ⟨v6, l6, rfl, ⟨x6, rfl, _⟩, k6⟩ := all2_cons' k5
 obtain ⟨v7, l7, rfl, ⟨x7, rfl, _⟩, k7⟩ := all2_cons' k6
 obtain ⟨v8, l8, rfl, ⟨x8, rfl, _⟩, k8⟩ := all2_cons' k7
 obtain rfl : l8 = [] := List.length_eq_zero_iff.1 k8.len.symm
 obtain ⟨u0, m0, rfl, ⟨y0, rfl, _⟩, j0⟩ := all2_cons' h2
 obtain ⟨u1, m1, rfl, ⟨d1, rfl⟩, j1⟩ := all2_cons' j0
 obtain ⟨u2, m2, rfl, ⟨y2, rfl, hy0, _⟩, j2⟩ := all2_cons' j1
 obtain rfl : m2 = [] := List.length_eq_zero_iff.1 j2.len.symm
 have hs : setJ [.int .u8 x0, .int .u8 x1, .int .i64 x2, .int .i64 x3, .bool d4, .int .u8 x5, .int .i64 x6, .int .i64 x7, .int .i64 x8] [.int .i64 y0, .bool d1, .int .u8 y2] = if x0 = 4 ∧ ¬ (codeI (.bool d1) = 1 ∨ 0 < y2) then y0 else -1 := rfl
 rw [hs]
 clear hs h1 h2 k0 k1 k2 k3 k4 k5 k6 k7 j0 j1
 show Calls _ _ #[.agg #[.int .u8 x0, .int .u8 x1, .int .i64 x2, .int .i64 x3, .bool d4, .int .u8 x5, .int .i64 x6, .int .i64 x7, .int .i64 x8, a, .int .i64 y0, .bool d1, .int .u8 y2]] W _
 generalize hR : (if x0 = 4 ∧ ¬ (codeI (.bool d1) = 1 ∨ 0 < y2) then y0 else -1) = R
 have HR := Lib.hid hR
 clear hR
 obtain ⟨wa, hwa⟩ : ∃ wa, wa = W.alloc (.cells #[.int .u8 x0, .int .u8 x1, .int .i64 x2, .int .i64 x3, .bool d4, .int .u8 x5, .int .i64 x6, .int .i64 x7, .int .i64 x8, a, .int .i64 y0, .bool d1, .int .u8 y2] 56) := ⟨_, rfl⟩
 have b0 : Below W.heap.size W wa := by rw [hwa]; exact (Below.refl _ _).alloc (Nat.le_refl _) _
 have hlt : W.heap.size < wa.heap.size := by rw [hwa]; simp
 have e0 : wa.cell? ⟨W.heap.size, 0, none⟩ = some (.int .u8 x0) := by rw [hwa, cell_of_row _ W.heap.size 0 _ _ (0, 0) (at_alloc rfl)]; rfl
 have e10 : wa.cell? ⟨W.heap.size, 10, none⟩ = some (.int .i64 y0) := by rw [hwa, cell_of_row _ W.heap.size 10 _ _ (0, 0) (at_alloc rfl)]; rfl
 have e11 : wa.cell? ⟨W.heap.size, 11, none⟩ = some (.bool d1) := by rw [hwa, cell_of_row _ W.heap.size 11 _ _ (0, 0) (at_alloc rfl)]; rfl
 have e12 : wa.cell? ⟨W.heap.size, 12, none⟩ = some (.int .u8 y2) := by rw [hwa, cell_of_row _ W.heap.size 12 _ _ (0, 0) (at_alloc rfl)]; rfl
 have fin : ∀ (r : Int) (w' : World), Below wa.heap.size wa w' → R = r → Ans1 W (.int .i64 R) (.returned (.int .i64 r)) w' := fun r w' hb hr => ⟨by rw [hr], b0.trans (hb.mono b0.size)⟩
 have HFIN := Lib.hid fin
 clear fin
 go_enter Tryz.func73, Tryz.ntmps73
 go_upto_region 1 with fail
 rw [← hwa]
 clear hwa
 by_cases h4 : x0 = 4
 ·subst h4
  cases d1 with
  | true =>
   go_wp2_with (go_at_call 97; refine (HP.out _ _ _ _).mono ?_; rintro e w2 ⟨rfl, b2⟩; have g0 := (b2.cell (p := ⟨W.heap.size, 10, none⟩) hlt).trans e10)
   go_ret
   exact HFIN.out _ _ b2 (by rw [← HR.out]; rfl)
  | false =>
   by_cases hz : y2 = 0
   ·subst hz
    go_wp2_with (go_at_call 97; refine (HP.out _ _ _ _).mono ?_; rintro e w2 ⟨rfl, b2⟩; have g1 := (b2.cell (p := ⟨W.heap.size, 10, none⟩) hlt).trans e10)
    go_ret
    exact HFIN.out _ _ b2 (by rw [← HR.out]; rfl)
   ·have nz : decide (y2 = 0) = false := decide_eq_false hz
    have nz2 : (y2 == 0) = false := by simpa using hz
    have nz3 : ¬ y2 = 0 := hz
    go_wp2_with (go_at_call 97; refine (HP.out _ _ _ _).mono ?_; rintro e w2 ⟨rfl, b2⟩; have g0 := (b2.cell (p := ⟨W.heap.size, 10, none⟩) hlt).trans e10)
    go_ret
    exact HFIN.out _ _ b2 (by rw [← HR.out, if_neg (fun q => q.2 (.inr (by have h00 : 0 ≤ y2 := hy0; omega)))])
 ·have n1 : (x0 == 4) = false := by simpa using h4
  go_wp2
  go_ret
  exact HFIN.out _ _ (Below.refl _ _) (by rw [← HR.out, if_neg (fun q => h4 q.1)])
theorem pt_field (W : World) (i k : Int) : (Instr.field 83 (.agg #[.int .i64 i, .int .i64 k]) 0).run Tryz.prog W = .ok (.int .i64 i) W := by kernel_rfl
set_option maxRecDepth 100000 in
set_option maxHeartbeats 4000000 in
theorem jump15_c {w : World} {v : Value} {D : FnD} (h : FnOk' w v D) (hs : Small D) {n i k : Nat} (hp : IsPt D n i k) : Calls Tryz.prog 74 #[v, .int .i64 (n : Nat)] w (Ans1 w (.agg ((D.bs.getD i b0).pre ++ (D.bs.getD i b0).a :: (D.bs.getD i b0).post).toArray)) := by
 have hT := fun w1 (hb : Below w.heap.size w w1) => point_c (h.frz hb.block) hs hp
 obtain ⟨A, c, e, hm, hr⟩ := FnOk'.blks h
 obtain ⟨b, hb⟩ : ∃ b, D.bs[i]? = some b := ⟨_, List.getElem?_eq_getElem hp.lt⟩
 have hbm := List.mem_of_getElem? hb
 have hbk := h.blk b hbm
 rw [getD_mem hb]
 obtain ⟨gb, ob, eA, hgb, hcb⟩ := hr i b.cells (by rw [List.getElem?_map, hb]; rfl)
 subst eA
 rw [h.eq, e] at hT ⊢
 have HT := Lib.hid hT
 have hiI : (i : Int) < (D.bs.length : Int) := by have := hp.lt; omega
 have h0I : (0 : Int) ≤ (i : Int) := Int.natCast_nonneg _
 have hbl := cells_len hbk
 have hb1 := blk_ones hbk
 have hj13 : (b.pre ++ b.a :: b.post).length = 13 := by
  have l1 := hbk.prek.len
  have l2 := hbk.postk.len
  have e1 : kPre.length = 9 := rfl
  have e2 : kPost.length = 3 := rfl
  simp
  omega
 have hj1 : ∀ u ∈ (b.pre ++ b.a :: b.post), u.oneCell' = true := fun u hu => hb1 u (List.mem_cons_of_mem _ hu)
 obtain ⟨w1, hw1⟩ : ∃ w1, w1 = (w.alloc (.cells #[.int .i64 D.p, .bool D.u, D.lv, .slice (some ⟨gb, ob, none⟩) D.bs.length c] tF)).alloc (.cells #[.int .u8 0, .int .u8 0, .int .i64 0, .int .i64 0, .bool false, .int .u8 0, .int .i64 0, .int .i64 0, .int .i64 0, .slice none 0 0, .int .i64 0, .bool false, .int .u8 0] 56) := ⟨_, rfl⟩
 have b01 : Below w.heap.size w w1 := by rw [hw1]; exact ((Below.refl _ _).alloc (Nat.le_refl _) _).alloc (by simp) _
 have B0 : Box w1.drew w.heap.size tF (.int .i64 D.p) (.bool D.u) D.lv (.slice (some ⟨gb, ob, none⟩) D.bs.length c) := by rw [hw1]; exact (Box.mk rfl).more
 have hz1 : w1.heap[w.heap.size + 1]? = some (.cells #[.int .u8 0, .int .u8 0, .int .i64 0, .int .i64 0, .bool false, .int .u8 0, .int .i64 0, .int .i64 0, .int .i64 0, .slice none 0 0, .int .i64 0, .bool false, .int .u8 0] 56 (0, 0)) := by rw [hw1]; exact at_alloc (by simp)
 have s1 : w1.heap.size = w.heap.size + 2 := by rw [hw1]; simp
 have hcb1 : w1.rangeAt gb (ob + i * 14) b.cells := fun j u hj => (b01.cell (p := ⟨gb, ob + i * 14 + j, none⟩) hgb).trans (hcb j u hj)
 obtain ⟨y0, y1, y2, y3⟩ := B0.cells
 have HB01 := Lib.hid b01
 clear h e hr hcb hb hbm hbk hp b01 hT
 go_enter Tryz.func74, Tryz.ntmps74
 go_upto_region 1 with fail
 rw [← hw1]
 clear hw1
 refine region_cells [⟨w.heap.size, 0, none⟩, ⟨w.heap.size, 1, none⟩, ⟨w.heap.size, 2, none⟩, ⟨w.heap.size, 3, none⟩] [(0, true), (1, true), (2, true), (3, true), (4, false), (5, true), (6, true), (7, true), (8, false), (9, false)] (by kernel_rfl) (by kernel_rfl) (by decide) (by kernel_rfl) (fun _ _ _ _ _ h => h) ?_
 have hz1d : w1.drew.heap[w.heap.size + 1]? = _ := hz1
 have hcb1d : w1.drew.rangeAt gb (ob + i * 14) b.cells := hcb1
 have b01 : Below w.heap.size w w1.drew := HB01.out.drew
 have s1d : w1.drew.heap.size = w.heap.size + 2 := s1
 clear hz1 hcb1 s1 HB01
 generalize w1.drew = wa at *
 refine SeqC.take (v := ?_) rfl (by rfl) (fun W hW => ?_) ?_; rotate_left; (focus (have zy0 := hW.get (by simp) y0; have zy1 := hW.get (by simp) y1; have zy2 := hW.get (by simp) y2; have zy3 := hW.get (by simp) y3; go_simp; with_reducible rfl)); simp only [Act.put, List.setIfInBounds_toArray, List.set_cons_zero, List.set_cons_succ]
 refine SeqC.take (v := ?_) rfl (by rfl) (fun W hW => ?_) ?_; rotate_left; (focus (have zy0 := hW.get (by simp) y0; have zy1 := hW.get (by simp) y1; have zy2 := hW.get (by simp) y2; have zy3 := hW.get (by simp) y3; go_simp; with_reducible rfl)); simp only [Act.put, List.setIfInBounds_toArray, List.set_cons_zero, List.set_cons_succ]
 refine SeqC.take (v := ?_) rfl (by rfl) (fun W hW => ?_) ?_; rotate_left; (focus (have zy0 := hW.get (by simp) y0; have zy1 := hW.get (by simp) y1; have zy2 := hW.get (by simp) y2; have zy3 := hW.get (by simp) y3; go_simp; with_reducible rfl)); simp only [Act.put, List.setIfInBounds_toArray, List.set_cons_zero, List.set_cons_succ]
 refine SeqC.take (v := ?_) rfl (by rfl) (fun W hW => ?_) ?_; rotate_left; (focus (have zy0 := hW.get (by simp) y0; have zy1 := hW.get (by simp) y1; have zy2 := hW.get (by simp) y2; have zy3 := hW.get (by simp) y3; go_simp; with_reducible rfl)); simp only [Act.put, List.setIfInBounds_toArray, List.set_cons_zero, List.set_cons_succ]
 refine SeqC.call (f := ?_) (args := ?_) rfl (by rfl) ?_ ?_
 rotate_left 2
 ·(go_simp; first | with_reducible rfl | (refine ⟨?_, ?_⟩ <;> with_reducible rfl))
 refine (HT.out _ b01).mono ?_
 rintro e w2 ⟨rfl, b2⟩
 refine ⟨_, rfl, Cells.of_ext b2 (by intro p hp; simp only [List.mem_cons, List.not_mem_nil, or_false] at hp; rcases hp with rfl | rfl | rfl | rfl <;> (show w.heap.size < wa.heap.size; omega)), ?_⟩
 simp only [Act.put, List.setIfInBounds_toArray, List.set_cons_zero, List.set_cons_succ]
 have hz2 := (b2.block _ (Array.getElem?_eq_some_iff.1 hz1d).1).trans hz1d
 have hrj : w2.rangeAt gb (ob + i * 14 + 1) (b.pre ++ b.a :: b.post) := fun j u hj => by
  show w2.cell? ⟨gb, ob + i * 14 + 1 + j, none⟩ = some u
  rw [Nat.add_assoc _ 1 j, Nat.add_comm 1 j]
  exact (b2.cell (p := ⟨gb, ob + i * 14 + (j + 1), none⟩) (by show gb < wa.heap.size; have := b01.size; omega)).trans (hcb1d (j + 1) u hj)
 have b02 := b01.trans (b2.mono b01.size)
 clear hcb1d hz1d y0 y1 y2 y3 B0 b01 b2
 refine SeqC.take (v := ?_) rfl (by rfl) (fun W hW => ?_) ?_; rotate_left; (focus (have z9 := pt_field W (i : Int) (k : Int); go_simp; with_reducible rfl)); simp only [Act.put, List.setIfInBounds_toArray, List.set_cons_zero, List.set_cons_succ]
 refine SeqC.take (v := ?_) rfl (by rfl) (fun W hW => ?_) ?_; rotate_left; (focus (go_simp; with_reducible rfl)); simp only [Act.put, List.setIfInBounds_toArray, List.set_cons_zero, List.set_cons_succ]
 refine SeqC.take (v := ?_) rfl (by rfl) (fun W hW => ?_) ?_; rotate_left; (focus (go_simp; with_reducible rfl)); simp only [Act.put, List.setIfInBounds_toArray, List.set_cons_zero, List.set_cons_succ]
 refine SeqC.step rfl (by rfl) (fun K' hK => wp_load_mid 56 _ rfl gb (ob + i * 14 + 1) rfl (b.pre ++ b.a :: b.post) _ hrj Tryz.underlying56 rfl (by rw [hj13]; exact jszR) (hK _ _ (Cells.refl _ _) ?_))
 simp only [Act.put, List.setIfInBounds_toArray, List.set_cons_zero, List.set_cons_succ]
 refine SeqC.step rfl (by rfl) (fun K' hK => wp_store_row 56 _ _ rfl (w.heap.size + 1) (b.pre ++ b.a :: b.post).toArray rfl rfl 56 _ hz2 (by rw [List.size_toArray, hj13]; exact jszR) (by simp only [List.size_toArray]; rw [hj13]; rfl) (by rw [List.all_toArray]; exact List.all_eq_true.2 hj1) (hK _ _ (fun p hp => cell_setRow_other w2 (w.heap.size + 1) _ p ?_) ?_))
 ·simp only [List.mem_cons, List.not_mem_nil, or_false] at hp
  rcases hp with rfl | rfl | rfl | rfl <;> (show w.heap.size ≠ w.heap.size + 1; omega)
 refine SeqC.done ?_
 simp only [Act.put]
 have hbE := below_setRow b02 (g := w.heap.size + 1) (by omega) (b.pre ++ b.a :: b.post).toArray
 have hgE := setRow_heap w2 (w.heap.size + 1) _ (b.pre ++ b.a :: b.post).toArray 56 _ hz2
 clear hz2 hrj b02
 generalize w2.setRow (w.heap.size + 1) (b.pre ++ b.a :: b.post).toArray = wE at *
 go_wp2
 refine bodyPost_ret (results_cell_row rfl _ _ (w.heap.size + 1) _ _ (0, 0) _ rfl hgE Tryz.underlying56 rfl (by rw [List.size_toArray, hj13]; exact jszR)) rfl ?_
 exact ⟨rfl, hbE⟩
set_option maxRecDepth 100000 in
set_option maxHeartbeats 4000000 in
theorem set16_c {w : World} {v : Value} {D : FnD} (h : FnOk' w v D) (hs : Small D) {n : Nat} (hn : n < sizeN D) : Calls Tryz.prog 49 #[v, .int .i64 (n : Nat)] w (Ans1 w (.int .i64 (setN D.bs n))) := by
 obtain ⟨i, k, hp⟩ := IsPt.of hn
 have hS := fun w1 (hb : Below w.heap.size w w1) => stmt_c (h.frz hb.block) hs hn
 have hJ := fun w1 (hb : Below w.heap.size w w1) => jump15_c (h.frz hb.block) hs hp
 obtain ⟨b, hb⟩ : ∃ b, D.bs[i]? = some b := ⟨_, List.getElem?_eq_getElem hp.lt⟩
 have hbm := List.mem_of_getElem? hb
 have hbk := h.blk b hbm
 have hst : stN D.bs n = b.st[k]? := by rw [hp.st, getD_mem hb]
 have hsn : setN D.bs n = setB b k := by rw [hp.set, getD_mem hb]
 rw [getD_mem hb] at hJ
 rw [h.eq] at hS hJ ⊢
 unfold stV at hS
 rw [hst] at hS
 rw [hsn]
 unfold setB
 have B0 : Box (w.alloc (.cells #[.int .i64 D.p, .bool D.u, D.lv, D.bv] tF)) w.heap.size tF (.int .i64 D.p) (.bool D.u) D.lv D.bv := Box.mk rfl
 have b0 : Below w.heap.size w (w.alloc (.cells #[.int .i64 D.p, .bool D.u, D.lv, D.bv] tF)) := (Below.refl _ _).alloc (Nat.le_refl _) _
 have hpk := hbk.prek
 have hqk := hbk.postk
 have hsk := hbk.skd
 have HJ := Lib.hid hJ
 clear hJ h hbk hbm hb hp hst hsn hs hn
 cases hel : b.st[k]? with
 | some el =>
  rw [hel] at hS
  dsimp only at hS
  have HS := Lib.hid hS
  have hkk := hsk el (List.mem_of_getElem? hel)
  have h26 : el.length = 26 := hkk.len.symm
  have h1s := stm_ones hkk
  show Calls _ _ _ _ (Ans1 w (.int .i64 (setI el)))
  have HK := Lib.hid (fun W => set5_c (W := W) hkk)
  generalize setI el = R at *
  have hsto : ∀ (W : World) (H : Nat), W.heap.size = H → (storeCells ⟨H, 0, none⟩ el).run Tryz.prog (W.alloc (.cells #[.int .u8 0, .int .i64 0, .bool false, .int .u8 0, .int .u8 0, .int .u8 0, .int .u8 0, .int .u8 0, .int .i64 0, .int .i64 0, .bool false, .int .u8 0, .int .u8 0, .int .i64 0, .int .i64 0, .bool false, .int .u8 0, .int .i64 0, .bool false, .int .u8 0, .int .u8 0, .int .i64 0, .int .i64 0, .bool false, .int .u8 0, .int .i64 0] 51)) = .ok () (W.alloc (.cells el.toArray 51)) := fun W H hH => run_store_fresh hH (by rw [h26]; rfl) h1s
  have HST := Lib.hid hsto
  clear hS hsto hpk hqk hsk hel hkk
  go_enter Tryz.func49, Tryz.ntmps49
  go_upto_region 2 with (go_at_call 25; refine (HS.out _ b0).mono ?_; rintro e w1 ⟨rfl, b1⟩; have hq := HST.out w1 _ rfl)
  generalize hwb : (w1.alloc (.cells el.toArray tS)) = wb
  have hre : wb.rangeAt w1.heap.size 0 el := fun j u hj => by
   rw [Nat.zero_add, ← hwb, cell_of_row _ w1.heap.size j _ tS (0, 0) (at_alloc rfl)]
   simpa using hj
  have hbb : Below w.heap.size w wb := by
   rw [← hwb]
   exact (b0.trans (b1.mono b0.size)).alloc (b0.trans (b1.mono b0.size)).size _
  have HRE := Lib.hid hre
  have HBB := Lib.hid hbb
  clear hwb hq hre hbb b1 b0 B0
  go_wp2_with (first | (refine wpList_load_mid rfl 51 _ rfl w1.heap.size 0 rfl el _ HRE.out Tryz.underlying51 rfl (by rw [h26]; exact sR) ?_) | (go_at_call 72; refine (HK.out _).mono ?_; rintro e w2 ⟨rfl, b2⟩))
  go_ret
  exact ⟨rfl, HBB.out.trans (b2.mono HBB.out.size)⟩
 | none =>
  rw [hel] at hS
  dsimp only at hS
  have h26 : zeroS.length = 26 := rfl
  have h1s : ∀ u ∈ zeroS, u.oneCell' = true := by unfold zeroS; simp [Value.oneCell']
  generalize zeroS = el at *
  have hsto : ∀ (W : World) (H : Nat), W.heap.size = H → (storeCells ⟨H, 0, none⟩ el).run Tryz.prog (W.alloc (.cells #[.int .u8 0, .int .i64 0, .bool false, .int .u8 0, .int .u8 0, .int .u8 0, .int .u8 0, .int .u8 0, .int .i64 0, .int .i64 0, .bool false, .int .u8 0, .int .u8 0, .int .i64 0, .int .i64 0, .bool false, .int .u8 0, .int .i64 0, .bool false, .int .u8 0, .int .u8 0, .int .i64 0, .int .i64 0, .bool false, .int .u8 0, .int .i64 0] 51)) = .ok () (W.alloc (.cells el.toArray 51)) := fun W H hH => run_store_fresh hH (by rw [h26]; rfl) h1s
  have HST := Lib.hid hsto
  have HS := Lib.hid hS
  clear hsto h1s
  show Calls _ _ _ _ (Ans1 w (.int .i64 (setJ b.pre b.post)))
  have HK := Lib.hid (fun W => set6_c (W := W) (a := b.a) hpk hqk)
  generalize setJ b.pre b.post = R at *
  generalize (b.pre ++ b.a :: b.post).toArray = J at *
  clear hS hpk hqk hsk hel
  go_enter Tryz.func49, Tryz.ntmps49
  go_wp2_with (first | (go_at_call 25; refine (HS.out _ b0).mono ?_; rintro e w1 ⟨rfl, b1⟩; have hq := HST.out w1 _ rfl; have b01 := b0.trans (b1.mono b0.size); obtain ⟨y0, y1, y2, y3⟩ := (B0.below b1).cells; have hl := (B0.below b1).lt) | (go_at_call 74; refine (HJ.out _ (b01.alloc b01.size _)).mono ?_; rintro e w2 ⟨rfl, b2⟩) | (go_at_call 73; refine (HK.out _).mono ?_; rintro e w3 ⟨rfl, b3⟩))
  go_ret
  have c1 := b01.alloc b01.size (.cells el.toArray tS)
  have c2 := c1.trans (b2.mono c1.size)
  exact ⟨rfl, c2.trans (b3.mono c2.size)⟩
end Go.Proofs.YthdcahkedlijpaaGreat.loan
