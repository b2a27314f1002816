/- pawnshopref21.Found: the loans of a sound function, as a new list. -/
import Derived.Test.YthdcahkedlijpaaGreatLoanN
namespace Go.Proofs.YthdcahkedlijpaaGreat.loan
open Go.RowKit Go.Proofs.YthdcahkedlijpaaGreat Go.Proofs.YthdcahkedlijpaaGreat.Am
set_option linter.unusedVariables false
theorem flat_one {α : Type} (f : α → Value) : ∀ l : List α, (l.map fun n => [f n]).flatten = l.map f
 | [] => rfl
 | a :: l => by rw [List.map_cons, List.flatten_cons, flat_one f l]; rfl
theorem take_next {α : Type} {l : List α} {m : Nat} {x : α} (h : l[m]? = some x) : l.take (m + 1) = l.take m ++ [x] := by rw [List.take_add_one, h]; rfl
set_option maxRecDepth 100000 in
set_option maxHeartbeats 8000000 in
theorem found_c {w : World} {v : Value} {D : FnD} (h : FnOk' w v D) (hs : Small D) : Calls Tryz.prog 32 #[v] w fun e w' => ∃ s, e = .returned s ∧ NewL tLn 6 (lns D.bs (sizeN D)) w s w' := by
 have hP := fun w1 (hb : Below w.heap.size w w1) => points19_c (h.frz hb.block) hs
 have hS := fun n (hn : n < sizeN D) w1 (hb : Below w.heap.size w w1) => stmt_c (h.frz hb.block) hs hn
 have hN6 : sizeN D ≤ 600 := hs.start (Nat.le_refl _)
 have hk : ∀ n el, stN D.bs n = some el → All2 Kd.ok kS26 el := fun n el hel => by
  obtain ⟨b, hb, hm⟩ := st_mem2 hel
  exact (h.blk b hb).skd el hm
 have hg : ∀ m n, (refs D.bs (sizeN D))[m]? = some n → n < sizeN D ∧ ∃ el, stN D.bs n = some el ∧ isRef el = true ∧ (lns D.bs (sizeN D))[m]? = some (lnS n el) := fun m n hm => refs_get hm
 have hRL := refs_lns D.bs (sizeN D)
 have hRN := refs_len (bs := D.bs) (sizeN D)
 rw [h.eq] at hP hS ⊢
 unfold NewP at hP
 generalize refs D.bs (sizeN D) = R at *
 generalize lns D.bs (sizeN D) = L at *
 have HP := Lib.hid hP
 have HS := Lib.hid hS
 have HK := Lib.hid hk
 have HG := Lib.hid hg
 have HRL := Lib.hid hRL
 clear hP hS hk hg h hs hRL
 have HW := Lib.hid (fun W x d y => whole15_c W x d y)
 have B0 : Box (w.alloc (.cells #[.int .i64 D.p, .bool D.u, D.lv, D.bv] tF)) w.heap.size tF (.int .i64 D.p) (.bool D.u) D.lv D.bv := Box.mk rfl
 have b0 : Below w.heap.size w (w.alloc (.cells #[.int .i64 D.p, .bool D.u, D.lv, D.bv] tF)) := (Below.refl _ _).alloc (Nat.le_refl _) _
 go_enter Tryz.func32, Tryz.ntmps32
 go_upto_region 2 with (go_at_call 47; refine (HP.out _ b0).mono ?_; rintro e w1 ⟨s1, rfl, hown1, b1⟩)
 have HB01 := Lib.hid (b0.trans (b1.mono b0.size))
 have HBX := Lib.hid (B0.below b1)
 have hlw := HBX.out.lt
 obtain ⟨A, c1, rfl, hrl⟩ := RowsAt.own (els := R.map fun n : Nat => [Value.int .i64 (n : Int)]) (by rw [flat_one]; exact hown1) (List.length_map _) (by decide) (fun x hx => by obtain ⟨n, _, rfl⟩ := List.mem_map.1 hx; rfl)
 rw [List.length_map] at *
 have HRR := Lib.hid hrl
 clear hown1 hrl b1 b0 B0
 go_wp2
 go_loopg [4, 5] R.length (fun g s4 s5 wr => ∃ m : Nat, s5 = .int .i64 m ∧ m ≤ R.length ∧ g = R.length - m ∧ wr.ownsRow w1.heap.size tLn 6 s4 m (L.take m).flatten ∧ Below w1.heap.size w1 wr)
 case atStart => exact ⟨0, rfl, Nat.zero_le _, rfl, World.ownsRow_nil _ _ _ _, Below.refl _ _⟩
 case round =>
  obtain ⟨m, rfl, hm, rfl, hown, hbel⟩ := hrel
  have h0M : (0 : Int) ≤ (m : Int) := Int.natCast_nonneg _
  have HBW := Lib.hid (HB01.out.trans (hbel.mono HB01.out.size))
  have HBEL := Lib.hid hbel
  have HOWN := Lib.hid hown
  clear hown
  rcases Nat.lt_or_ge m R.length with hlt | hge
  ·have hltI : (m : Int) < (R.length : Int) := by omega
   obtain ⟨n, hn⟩ : ∃ n, R[m]? = some n := ⟨_, List.getElem?_eq_getElem hlt⟩
   obtain ⟨hnN, el, hst, href, hLm⟩ := HG.out m n hn
   obtain ⟨gp, op, eA, hgp, hcp⟩ := (HRR.out.below (hbel.mono (Nat.le_refl _))) m [.int .i64 n] (by rw [List.getElem?_map, hn]; rfl)
   subst eA
   have hgp1 : gp < w1.heap.size := by
    obtain ⟨g', o', e', hg', _⟩ := HRR.out m [.int .i64 n] (by rw [List.getElem?_map, hn]; rfl)
    cases e'
    exact hg'
   have p0 := hcp 0 _ rfl
   simp only [Nat.mul_one, Nat.add_zero] at p0
   have hsv := HS.out n hnN
   unfold stV at hsv
   rw [hst] at hsv
   dsimp only at hsv
   have hkk := HK.out n el hst
   have h26 : el.length = 26 := hkk.len.symm
   have h1s := stm_ones hkk
   have HSV := Lib.hid hsv
   have HLM := Lib.hid hLm
   have HN := Lib.hid hn
   have HKK := Lib.hid hkk
   have HB2 := Lib.hid (HBEL.out.drew)
   have HO2 := Lib.hid (show wr.drew.ownsRow w1.heap.size tLn 6 _ m (L.take m).flatten from HOWN.out)
   have HBW2 := Lib.hid (HBW.out.drew)
   have HX2 := Lib.hid (HBX.out.below HBEL.out.drew)
   have p0d : wr.drew.cell? ⟨gp, op + m, none⟩ = _ := p0
   clear hcp hsv hst href hLm hkk hbel p0 hn
   go_upto_region 6 with fail
   have hsto : ∀ (W : World) (H : Nat), W.heap.size = H → (storeCells ⟨H, 0, none⟩ el).run Tryz.prog (W.alloc (.cells #[.int .u8 0, .int .i64 0, .bool false, .int .u8 0, .int .u8 0, .int .u8 0, .int .u8 0, .int .u8 0, .int .i64 0, .int .i64 0, .bool false, .int .u8 0, .int .u8 0, .int .i64 0, .int .i64 0, .bool false, .int .u8 0, .int .i64 0, .bool false, .int .u8 0, .int .u8 0, .int .i64 0, .int .i64 0, .bool false, .int .u8 0, .int .i64 0] 51)) = .ok () (W.alloc (.cells el.toArray 51)) := fun W H hH => run_store_fresh hH (by rw [h26]; rfl) h1s
   have HST := Lib.hid hsto
   have hgpr : gp < wr.heap.size := Nat.lt_of_lt_of_le hgp1 HBEL.out.size
   have hlwr : w.heap.size < wr.heap.size := Nat.lt_of_lt_of_le hlw HBEL.out.size
   clear hsto
   go_cut [6, 7] from 11 to 48 (fun s6 s7 wx => ∃ H : Nat, s6 = .pointer (some ⟨H, 0, none⟩) ∧ s7 = .bool true ∧ wx.heap[H]? = some (.cells el.toArray tS (0, 0)) ∧ Below wr.heap.size wr wx)
   case first =>
    refine region_tree wr.heap.size (by kernel_rfl) ?_
    obtain ⟨y0, y1, y2, y3⟩ := HX2.out.cells
    have hsd : wr.drew.heap.size = wr.heap.size := rfl
    have hbd : Below wr.heap.size wr wr.drew := (Below.refl _ _).drew
    generalize wr.drew = wd at *
    have hQ0 := fun W (hW : Below wr.heap.size wd W) => (hW.cell (p := ⟨w.heap.size, 0, none⟩) hlwr).trans y0
    have hQ1 := fun W (hW : Below wr.heap.size wd W) => (hW.cell (p := ⟨w.heap.size, 1, none⟩) hlwr).trans y1
    have hQ2 := fun W (hW : Below wr.heap.size wd W) => (hW.cell (p := ⟨w.heap.size, 2, none⟩) hlwr).trans y2
    have hQ3 := fun W (hW : Below wr.heap.size wd W) => (hW.cell (p := ⟨w.heap.size, 3, none⟩) hlwr).trans y3
    have hQ4 := fun W (hW : Below wr.heap.size wd W) => (hW.cell (p := ⟨gp, op + m, none⟩) hgpr).trans p0d
    have HQ0 := Lib.hid hQ0
    have HQ1 := Lib.hid hQ1
    have HQ2 := Lib.hid hQ2
    have HQ3 := Lib.hid hQ3
    have HQ4 := Lib.hid hQ4
    clear hQ0 hQ1 hQ2 hQ3 hQ4 y0 y1 y2 y3 p0d
    refine AnyE.take (i := 0) (v := ?_) (by kernel_rfl) rfl (by kernel_rfl) (by kernel_rfl) (fun _ _ _ _ _ h => h) (by rfl) (fun W hW => ?_) ?_; rotate_left; (focus (have z0 := HQ0.out W hW; have z1 := HQ1.out W hW; have z2 := HQ2.out W hW; have z3 := HQ3.out W hW; have z4 := HQ4.out W hW; go_simp; with_reducible rfl)); simp only [Act.put, List.setIfInBounds_toArray, List.set_cons_zero, List.set_cons_succ]
    refine AnyE.take (i := 1) (v := ?_) (by kernel_rfl) rfl (by kernel_rfl) (by kernel_rfl) (fun _ _ _ _ _ h => h) (by rfl) (fun W hW => ?_) ?_; rotate_left; (focus (have z0 := HQ0.out W hW; have z1 := HQ1.out W hW; have z2 := HQ2.out W hW; have z3 := HQ3.out W hW; have z4 := HQ4.out W hW; go_simp; with_reducible rfl)); simp only [Act.put, List.setIfInBounds_toArray, List.set_cons_zero, List.set_cons_succ]
    refine AnyE.take (i := 2) (v := ?_) (by kernel_rfl) rfl (by kernel_rfl) (by kernel_rfl) (fun _ _ _ _ _ h => h) (by rfl) (fun W hW => ?_) ?_; rotate_left; (focus (have z0 := HQ0.out W hW; have z1 := HQ1.out W hW; have z2 := HQ2.out W hW; have z3 := HQ3.out W hW; have z4 := HQ4.out W hW; go_simp; with_reducible rfl)); simp only [Act.put, List.setIfInBounds_toArray, List.set_cons_zero, List.set_cons_succ]
    refine AnyE.take (i := 3) (v := ?_) (by kernel_rfl) rfl (by kernel_rfl) (by kernel_rfl) (fun _ _ _ _ _ h => h) (by rfl) (fun W hW => ?_) ?_; rotate_left; (focus (have z0 := HQ0.out W hW; have z1 := HQ1.out W hW; have z2 := HQ2.out W hW; have z3 := HQ3.out W hW; have z4 := HQ4.out W hW; go_simp; with_reducible rfl)); simp only [Act.put, List.setIfInBounds_toArray, List.set_cons_zero, List.set_cons_succ]
    refine AnyE.take (i := 4) (v := ?_) (by kernel_rfl) rfl (by kernel_rfl) (by kernel_rfl) (fun _ _ _ _ _ h => h) (by rfl) (fun W hW => ?_) ?_; rotate_left; (focus (have z0 := HQ0.out W hW; have z1 := HQ1.out W hW; have z2 := HQ2.out W hW; have z3 := HQ3.out W hW; have z4 := HQ4.out W hW; go_simp; with_reducible rfl)); simp only [Act.put, List.setIfInBounds_toArray, List.set_cons_zero, List.set_cons_succ]
    refine AnyE.all (rs := [5, 9]) (by kernel_rfl) rfl ?_
    refine List.forall_mem_cons.2 ⟨?_, List.forall_mem_cons.2 ⟨?_, by simp⟩⟩
    ·refine stepCall (f := ?_) (args := ?_) rfl (by rfl) ?_ ?_
     rotate_left 2
     ·(go_simp; first | with_reducible rfl | (refine ⟨?_, ?_⟩ <;> with_reducible rfl))
     refine (HSV.out _ HBW2.out).mono ?_
     rintro e w3 ⟨rfl, b3⟩
     rw [hsd] at b3
     refine ⟨_, rfl, b3, ?_⟩
     simp only [Act.put, List.setIfInBounds_toArray, List.set_cons_zero, List.set_cons_succ]
     refine AnyE.take (i := 6) (v := ?_) (by kernel_rfl) rfl (by kernel_rfl) (by kernel_rfl) (fun _ _ _ _ _ h => h) (by rfl) (fun W hW => ?_) ?_; rotate_left; (focus (go_simp; with_reducible rfl)); simp only [Act.put, List.setIfInBounds_toArray, List.set_cons_zero, List.set_cons_succ]
     refine AnyE.take (i := 7) (v := ?_) (by kernel_rfl) rfl (by kernel_rfl) (by kernel_rfl) (fun _ _ _ _ _ h => h) (by rfl) (fun W hW => ?_) ?_; rotate_left; (focus (go_simp; with_reducible rfl)); simp only [Act.put, List.setIfInBounds_toArray, List.set_cons_zero, List.set_cons_succ]
     refine AnyE.take (i := 8) (v := ?_) (by kernel_rfl) rfl (by kernel_rfl) (by kernel_rfl) (fun _ _ _ _ _ h => h) (by rfl) (fun W hW => ?_) ?_; rotate_left; (focus (go_simp; with_reducible rfl)); simp only [Act.put, List.setIfInBounds_toArray, List.set_cons_zero, List.set_cons_succ]
     refine AnyE.all (rs := [9]) (by kernel_rfl) rfl ?_
     refine List.forall_mem_cons.2 ⟨?_, by simp⟩
     have hw3 : wr.heap.size ≤ w3.heap.size := by have := b3.size; omega
     refine stepVal (v := .pointer (some ⟨w3.heap.size, 0, none⟩)) (w' := w3.alloc (.cells #[.int .u8 0, .int .i64 0, .bool false, .int .u8 0, .int .u8 0, .int .u8 0, .int .u8 0, .int .u8 0, .int .i64 0, .int .i64 0, .bool false, .int .u8 0, .int .u8 0, .int .i64 0, .int .i64 0, .bool false, .int .u8 0, .int .i64 0, .bool false, .int .u8 0, .int .u8 0, .int .i64 0, .int .i64 0, .bool false, .int .u8 0, .int .i64 0] tS)) rfl (by rfl) (by go_simp; try with_reducible rfl) ((Below.refl _ _).alloc hw3 _) ?_
     simp only [Act.put, List.setIfInBounds_toArray, List.set_cons_zero, List.set_cons_succ]
     refine AnyE.all (rs := [10]) (by kernel_rfl) rfl ?_
     refine List.forall_mem_cons.2 ⟨?_, by simp⟩
     refine stepStore rfl (by rfl) tS _ _ rfl w3.heap.size 0 el.toArray rfl rfl (at_alloc rfl) (by rw [List.size_toArray, h26]; decide) (by rw [List.size_toArray, h26]; exact sR) (by rw [List.all_toArray]; exact List.all_eq_true.2 h1s) hw3 (fun w5 DS hS eS kS bS sS => ?_)
     obtain rfl : DS = el.toArray := Array.ext' (by rw [eS, List.size_toArray, h26]; simp)
     clear eS sS kS
     simp only [Act.put]
     refine AnyE.take (i := 11) (v := ?_) (by kernel_rfl) rfl (by kernel_rfl) (by kernel_rfl) (fun _ _ _ _ _ h => h) (by rfl) (fun W hW => ?_) ?_; rotate_left; (focus (go_simp; with_reducible rfl)); simp only [Act.put, List.setIfInBounds_toArray, List.set_cons_zero, List.set_cons_succ]
     refine AnyE.done (by kernel_rfl) ?_
     go_wp2_with fail
     go_meet
     exact ⟨w3.heap.size, rfl, rfl, hS, (hbd.trans b3).trans (((Below.refl _ _).alloc hw3 _).trans bS)⟩
    ·have hw0 : wr.heap.size ≤ wd.heap.size := Nat.le_of_eq hsd.symm
     refine stepVal (v := .pointer (some ⟨wd.heap.size, 0, none⟩)) (w' := wd.alloc (.cells #[.int .u8 0, .int .i64 0, .bool false, .int .u8 0, .int .u8 0, .int .u8 0, .int .u8 0, .int .u8 0, .int .i64 0, .int .i64 0, .bool false, .int .u8 0, .int .u8 0, .int .i64 0, .int .i64 0, .bool false, .int .u8 0, .int .i64 0, .bool false, .int .u8 0, .int .u8 0, .int .i64 0, .int .i64 0, .bool false, .int .u8 0, .int .i64 0] tS)) rfl (by rfl) (by go_simp; try with_reducible rfl) ((Below.refl _ _).alloc hw0 _) ?_
     simp only [Act.put, List.setIfInBounds_toArray, List.set_cons_zero, List.set_cons_succ]
     have hz : (wd.alloc (.cells #[.int .u8 0, .int .i64 0, .bool false, .int .u8 0, .int .u8 0, .int .u8 0, .int .u8 0, .int .u8 0, .int .i64 0, .int .i64 0, .bool false, .int .u8 0, .int .u8 0, .int .i64 0, .int .i64 0, .bool false, .int .u8 0, .int .i64 0, .bool false, .int .u8 0, .int .u8 0, .int .i64 0, .int .i64 0, .bool false, .int .u8 0, .int .i64 0] tS)).heap[wd.heap.size]? = some (.cells #[.int .u8 0, .int .i64 0, .bool false, .int .u8 0, .int .u8 0, .int .u8 0, .int .u8 0, .int .u8 0, .int .i64 0, .int .i64 0, .bool false, .int .u8 0, .int .u8 0, .int .i64 0, .int .i64 0, .bool false, .int .u8 0, .int .i64 0, .bool false, .int .u8 0, .int .u8 0, .int .i64 0, .int .i64 0, .bool false, .int .u8 0, .int .i64 0] tS (0, 0)) := at_alloc rfl
     have hba : Below wd.heap.size wd (wd.alloc (.cells #[.int .u8 0, .int .i64 0, .bool false, .int .u8 0, .int .u8 0, .int .u8 0, .int .u8 0, .int .u8 0, .int .i64 0, .int .i64 0, .bool false, .int .u8 0, .int .u8 0, .int .i64 0, .int .i64 0, .bool false, .int .u8 0, .int .i64 0, .bool false, .int .u8 0, .int .u8 0, .int .i64 0, .int .i64 0, .bool false, .int .u8 0, .int .i64 0] tS)) := (Below.refl _ _).alloc (Nat.le_refl _) _
     generalize wd.alloc (.cells #[.int .u8 0, .int .i64 0, .bool false, .int .u8 0, .int .u8 0, .int .u8 0, .int .u8 0, .int .u8 0, .int .i64 0, .int .i64 0, .bool false, .int .u8 0, .int .u8 0, .int .i64 0, .int .i64 0, .bool false, .int .u8 0, .int .i64 0, .bool false, .int .u8 0, .int .u8 0, .int .i64 0, .int .i64 0, .bool false, .int .u8 0, .int .i64 0] tS) = wz at *
     refine AnyE.all (rs := [5]) (by kernel_rfl) rfl ?_
     refine List.forall_mem_cons.2 ⟨?_, by simp⟩
     refine stepCall (f := ?_) (args := ?_) rfl (by rfl) ?_ ?_
     rotate_left 2
     ·(go_simp; first | with_reducible rfl | (refine ⟨?_, ?_⟩ <;> with_reducible rfl))
     refine (HSV.out _ (HBW2.out.trans (hba.mono HBW2.out.size))).mono ?_
     rintro e w3 ⟨rfl, b3⟩
     have hz3 := (b3.block _ (Array.getElem?_eq_some_iff.1 hz).1).trans hz
     have hwz : wr.heap.size ≤ wz.heap.size := Nat.le_trans hw0 hba.size
     refine ⟨_, rfl, b3.mono hwz, ?_⟩
     simp only [Act.put, List.setIfInBounds_toArray, List.set_cons_zero, List.set_cons_succ]
     refine AnyE.take (i := 6) (v := ?_) (by kernel_rfl) rfl (by kernel_rfl) (by kernel_rfl) (fun _ _ _ _ _ h => h) (by rfl) (fun W hW => ?_) ?_; rotate_left; (focus (go_simp; with_reducible rfl)); simp only [Act.put, List.setIfInBounds_toArray, List.set_cons_zero, List.set_cons_succ]
     refine AnyE.take (i := 7) (v := ?_) (by kernel_rfl) rfl (by kernel_rfl) (by kernel_rfl) (fun _ _ _ _ _ h => h) (by rfl) (fun W hW => ?_) ?_; rotate_left; (focus (go_simp; with_reducible rfl)); simp only [Act.put, List.setIfInBounds_toArray, List.set_cons_zero, List.set_cons_succ]
     refine AnyE.take (i := 8) (v := ?_) (by kernel_rfl) rfl (by kernel_rfl) (by kernel_rfl) (fun _ _ _ _ _ h => h) (by rfl) (fun W hW => ?_) ?_; rotate_left; (focus (go_simp; with_reducible rfl)); simp only [Act.put, List.setIfInBounds_toArray, List.set_cons_zero, List.set_cons_succ]
     refine AnyE.all (rs := [10]) (by kernel_rfl) rfl ?_
     refine List.forall_mem_cons.2 ⟨?_, by simp⟩
     refine stepStore rfl (by rfl) tS _ _ rfl wd.heap.size 0 el.toArray rfl rfl hz3 (by rw [List.size_toArray, h26]; decide) (by rw [List.size_toArray, h26]; exact sR) (by rw [List.all_toArray]; exact List.all_eq_true.2 h1s) hw0 (fun w5 DS hS eS kS bS sS => ?_)
     obtain rfl : DS = el.toArray := Array.ext' (by rw [eS, List.size_toArray, h26]; simp)
     clear eS sS kS
     simp only [Act.put]
     refine AnyE.take (i := 11) (v := ?_) (by kernel_rfl) rfl (by kernel_rfl) (by kernel_rfl) (fun _ _ _ _ _ h => h) (by rfl) (fun W hW => ?_) ?_; rotate_left; (focus (go_simp; with_reducible rfl)); simp only [Act.put, List.setIfInBounds_toArray, List.set_cons_zero, List.set_cons_succ]
     refine AnyE.done (by kernel_rfl) ?_
     go_wp2_with fail
     go_meet
     exact ⟨wd.heap.size, rfl, rfl, hS, ((hbd.trans (hba.mono hw0)).trans (b3.mono hwz)).trans bS⟩
   obtain ⟨H, rfl, rfl, hHb, hbb⟩ := hcut
   generalize wc = wb at *
   have sb : H < wb.heap.size := (Array.getElem?_eq_some_iff.1 hHb).1
   obtain ⟨x0, x1, x3, x4, x6, x17, x19, d2, d18, v5, v7, v8, v9, v10, v11, v12, v13, v14, v15, v16, v20, v21, v22, v23, v24, v25, hel, hone⟩ := stm_open HKK.out
   have hce : ∀ f u, el[f]? = some u → wb.cell? ⟨H, f, none⟩ = some u := fun f u hu => by
    rw [cell_of_row _ H f _ tS (0, 0) hHb]
    simpa using hu
   have e1 := hce 1 (.int .i64 x1) (by rw [hel]; rfl)
   have e2 := hce 2 (.bool d2) (by rw [hel]; rfl)
   have e3 := hce 3 (.int .u8 x3) (by rw [hel]; rfl)
   have e6 := hce 6 (.int .u8 x6) (by rw [hel]; rfl)
   have e17 := hce 17 (.int .i64 x17) (by rw [hel]; rfl)
   have e18 := hce 18 (.bool d18) (by rw [hel]; rfl)
   have e19 := hce 19 (.int .u8 x19) (by rw [hel]; rfl)
   have hwh : whole el = (!d2 && decide (x3 = 0)) := by rw [hel]; cases d2 <;> rfl
   have hln : lnS n el = [.int .i64 n, .int .i64 x17, .bool d18, .int .u8 x19, .int .u8 x6, .int .i64 (if (!d2 && decide (x3 = 0)) then x1 else -1)] := by
    rw [← hwh, hel]
    rfl
   have HLN := Lib.hid hln
   have HBB := Lib.hid (HBEL.out.trans (hbb.mono HBEL.out.size))
   have HOB := Lib.hid (owns_below HOWN.out hbb)
   have pb := (hbb.cell (p := ⟨gp, op + m, none⟩) hgpr).trans p0d
   have hw1b := HBB.out.size
   clear hce hel hone hwh hln hbb h26 h1s p0d hHb
   go_upto_region 7 with fail
   have HBd := Lib.hid (HBB.out.drew)
   have HOd := Lib.hid (show wb.drew.ownsRow w1.heap.size tLn 6 _ m (L.take m).flatten from HOB.out)
   refine region_cells [⟨gp, op + m, none⟩, ⟨H, 1, none⟩, ⟨H, 2, none⟩, ⟨H, 3, none⟩, ⟨H, 6, none⟩, ⟨H, 17, none⟩, ⟨H, 18, none⟩, ⟨H, 19, none⟩] [(0, true), (1, true), (2, true), (3, true), (4, true), (5, true), (6, true), (7, true), (8, true), (9, true), (10, true), (11, true), (12, true), (13, true), (14, false), (15, false)] (by kernel_rfl) (by kernel_rfl) (by decide) (by kernel_rfl) (fun _ _ _ _ _ h => h) ?_
   have pb : wb.drew.cell? ⟨gp, op + m, none⟩ = _ := pb
   have e1 : wb.drew.cell? ⟨H, 1, none⟩ = _ := e1
   have e2 : wb.drew.cell? ⟨H, 2, none⟩ = _ := e2
   have e3 : wb.drew.cell? ⟨H, 3, none⟩ = _ := e3
   have e6 : wb.drew.cell? ⟨H, 6, none⟩ = _ := e6
   have e17 : wb.drew.cell? ⟨H, 17, none⟩ = _ := e17
   have e18 : wb.drew.cell? ⟨H, 18, none⟩ = _ := e18
   have e19 : wb.drew.cell? ⟨H, 19, none⟩ = _ := e19
   have sb : H < wb.drew.heap.size := sb
   have hw1c : w1.heap.size ≤ wb.drew.heap.size := hw1b
   generalize wb.drew = wc at *
   iterate 14 (refine SeqC.take (v := ?_) rfl (by rfl) (fun W hW => ?_) ?_; rotate_left; (focus (have zpb := hW.get (by simp) pb; have ze1 := hW.get (by simp) e1; have ze2 := hW.get (by simp) e2; have ze3 := hW.get (by simp) e3; have ze6 := hW.get (by simp) e6; have ze17 := hW.get (by simp) e17; have ze18 := hW.get (by simp) e18; have ze19 := hW.get (by simp) e19; go_simp; with_reducible rfl)); simp only [Act.put, List.setIfInBounds_toArray, List.set_cons_zero, List.set_cons_succ])
   have hall : ∀ p ∈ ([⟨gp, op + m, none⟩, ⟨H, 1, none⟩, ⟨H, 2, none⟩, ⟨H, 3, none⟩, ⟨H, 6, none⟩, ⟨H, 17, none⟩, ⟨H, 18, none⟩, ⟨H, 19, none⟩] : List Addr), p.block < wc.heap.size := by
    intro p hp
    simp only [List.mem_cons, List.not_mem_nil, or_false] at hp
    rcases hp with rfl | rfl | rfl | rfl | rfl | rfl | rfl | rfl <;> first | (show gp < wc.heap.size; omega) | (show H < wc.heap.size; omega)
   refine SeqC.val (v := .pointer (some ⟨wc.heap.size, 0, none⟩)) (w' := wc.alloc (.cells #[.int .i64 0, .int .i64 0, .bool false, .int .u8 0, .int .u8 0, .int .i64 0] tLn)) rfl (by rfl) (by go_simp; try with_reducible rfl) (Cells.of_ext ((Below.refl _ _).alloc (Nat.le_refl _) _) hall) ?_
   simp only [Act.put, List.setIfInBounds_toArray, List.set_cons_zero, List.set_cons_succ]
   refine SeqC.step rfl (by rfl) (fun K' hK => wp_store_row tLn _ _ rfl wc.heap.size #[.int .i64 n, .int .i64 x17, .bool d18, .int .u8 x19, .int .u8 x6, .int .i64 x1] rfl rfl tLn _ (at_alloc rfl) (by kernel_rfl) rfl (by simp [Value.oneCell']) (hK _ _ (fun p hp => cell_setRow_other _ wc.heap.size _ p ?_) ?_))
   ·exact Nat.ne_of_lt (hall p hp)
   refine SeqC.done ?_
   simp only [Act.put]
   rw [alloc_setRow]
   clear hall
   have hq : (wc.alloc (.cells #[.int .i64 n, .int .i64 x17, .bool d18, .int .u8 x19, .int .u8 x6, .int .i64 x1] tLn)).heap[wc.heap.size]? = some (.cells #[.int .i64 n, .int .i64 x17, .bool d18, .int .u8 x19, .int .u8 x6, .int .i64 x1] tLn (0, 0)) := at_alloc rfl
   have hce : ∀ f u, wc.cell? ⟨H, f, none⟩ = some u → (wc.alloc (.cells #[.int .i64 n, .int .i64 x17, .bool d18, .int .u8 x19, .int .u8 x6, .int .i64 x1] tLn)).cell? ⟨H, f, none⟩ = some u := fun f u hu => cell_more hu
   have hb7 : Below wc.heap.size wc (wc.alloc (.cells #[.int .i64 n, .int .i64 x17, .bool d18, .int .u8 x19, .int .u8 x6, .int .i64 x1] tLn)) := (Below.refl _ _).alloc (Nat.le_refl _) _
   have e1 := hce _ _ e1
   have e2 := hce _ _ e2
   have e3 := hce _ _ e3
   clear e6 e17 e18 e19 pb hce
   generalize (wc.alloc (.cells #[.int .i64 n, .int .i64 x17, .bool d18, .int .u8 x19, .int .u8 x6, .int .i64 x1] tLn)) = wf at *
   cases hwh : (!d2 && decide (x3 = 0)) with
   | true =>
    have HQ := Lib.hid hq
    have HLN2 := Lib.hid (show lnS n el = [.int .i64 n, .int .i64 x17, .bool d18, .int .u8 x19, .int .u8 x6, .int .i64 x1] from by rw [HLN.out, hwh]; rfl)
    have HWA := Lib.hid (show ∀ W, Calls Tryz.prog 48 #[.agg #[.int .i64 x1, .bool d2, .int .u8 x3]] W (Ans1 W (.bool true)) from fun W => by have := HW.out W x1 d2 x3; rw [hwh] at this; exact this)
    clear hq hwh
    go_upto_region 10 with (go_at_call 48; refine (HWA.out _).mono ?_; rintro e w5 ⟨rfl, b5⟩)
    have hq5 := (b5.block _ (Array.getElem?_eq_some_iff.1 HQ.out).1).trans HQ.out
    have hb75 := hb7.trans (b5.mono hb7.size)
    have HO5 := Lib.hid (owns_below HOd.out hb75)
    have HB5 := Lib.hid (HBd.out.trans (hb75.mono HBd.out.size))
    have q0 : w5.cell? ⟨wc.heap.size, 0, none⟩ = some (.int .i64 n) := by rw [cell_of_row _ _ 0 _ tLn (0, 0) hq5]; rfl
    have q1 : w5.cell? ⟨wc.heap.size, 1, none⟩ = some (.int .i64 x17) := by rw [cell_of_row _ _ 1 _ tLn (0, 0) hq5]; rfl
    have q2 : w5.cell? ⟨wc.heap.size, 2, none⟩ = some (.bool d18) := by rw [cell_of_row _ _ 2 _ tLn (0, 0) hq5]; rfl
    have q3 : w5.cell? ⟨wc.heap.size, 3, none⟩ = some (.int .u8 x19) := by rw [cell_of_row _ _ 3 _ tLn (0, 0) hq5]; rfl
    have q4 : w5.cell? ⟨wc.heap.size, 4, none⟩ = some (.int .u8 x6) := by rw [cell_of_row _ _ 4 _ tLn (0, 0) hq5]; rfl
    have q5 : w5.cell? ⟨wc.heap.size, 5, none⟩ = some (.int .i64 x1) := by rw [cell_of_row _ _ 5 _ tLn (0, 0) hq5]; rfl
    clear hq5 hb7 hb75 b5 e1 e2 e3
    go_wp2_with (at_builtin; refine wpList_appendN rfl _ _ 27 rfl w1.heap.size tLn (.agg #[.int .i64 0, .int .i64 0, .bool false, .int .u8 0, .int .u8 0, .int .i64 0]) 6 40 Tryz.underlying27 lnR rfl (by decide) _ _ _ rfl (HO5.out.alloc _) [.int .i64 n, .int .i64 x17, .bool d18, .int .u8 x19, .int .u8 x6, .int .i64 x1] _ 1 rfl (at_alloc rfl) rfl (by simp [Value.oneCell']) (by omega) (by omega) (HB5.out.alloc HB5.out.size _) (by have := HB5.out.size; simp; omega) ?_; intro v1 w6 hown1 hbel1)
    go_roundg (R.length - (m + 1))
    case measure => omega
    case rel => exact ⟨m + 1, by simp, by omega, rfl, by rw [take_next HLM.out, List.flatten_append, HLN2.out]; simpa using hown1, hbel1⟩
   | false =>
    have HQ := Lib.hid hq
    have HLN2 := Lib.hid (show lnS n el = [.int .i64 n, .int .i64 x17, .bool d18, .int .u8 x19, .int .u8 x6, .int .i64 (-1)] from by rw [HLN.out, hwh]; rfl)
    have HWA := Lib.hid (show ∀ W, Calls Tryz.prog 48 #[.agg #[.int .i64 x1, .bool d2, .int .u8 x3]] W (Ans1 W (.bool false)) from fun W => by have := HW.out W x1 d2 x3; rw [hwh] at this; exact this)
    clear hq hwh
    go_upto_region 9 with (go_at_call 48; refine (HWA.out _).mono ?_; rintro e w5 ⟨rfl, b5⟩)
    have hq5 := (b5.block _ (Array.getElem?_eq_some_iff.1 HQ.out).1).trans HQ.out
    have hb75 := hb7.trans (b5.mono hb7.size)
    have f5 : w5.frozen? ⟨wc.heap.size, 5, none⟩ = false := frozen_none (letI : Base := (⟨w, [], []⟩ : Env).b; hq5) 5
    have q5 : w5.cell? ⟨wc.heap.size, 5, none⟩ = some (.int .i64 x1) := by rw [cell_of_row _ _ 5 _ tLn (0, 0) hq5]; rfl
    clear e1 e2 e3
    go_upto_region 10 with fail
    letI : Base := (⟨w, [], []⟩ : Env).b
    have hq6 : (w5.setCell ⟨wc.heap.size, 5, none⟩ (.int .i64 (-1))).heap[wc.heap.size]? = some (.cells #[.int .i64 n, .int .i64 x17, .bool d18, .int .u8 x19, .int .u8 x6, .int .i64 (-1)] tLn (0, 0)) := setCell_at hq5
    have hb76 := hb75.setCell (p := ⟨wc.heap.size, 5, none⟩) (Nat.le_refl _) (.int .i64 (-1))
    generalize w5.setCell ⟨wc.heap.size, 5, none⟩ (.int .i64 (-1)) = w6 at *
    have HO5 := Lib.hid (owns_below HOd.out hb76)
    have HB5 := Lib.hid (HBd.out.trans (hb76.mono HBd.out.size))
    clear q5 f5
    have q0 : w6.cell? ⟨wc.heap.size, 0, none⟩ = some (.int .i64 n) := by rw [cell_of_row _ _ 0 _ tLn (0, 0) hq6]; rfl
    have q1 : w6.cell? ⟨wc.heap.size, 1, none⟩ = some (.int .i64 x17) := by rw [cell_of_row _ _ 1 _ tLn (0, 0) hq6]; rfl
    have q2 : w6.cell? ⟨wc.heap.size, 2, none⟩ = some (.bool d18) := by rw [cell_of_row _ _ 2 _ tLn (0, 0) hq6]; rfl
    have q3 : w6.cell? ⟨wc.heap.size, 3, none⟩ = some (.int .u8 x19) := by rw [cell_of_row _ _ 3 _ tLn (0, 0) hq6]; rfl
    have q4 : w6.cell? ⟨wc.heap.size, 4, none⟩ = some (.int .u8 x6) := by rw [cell_of_row _ _ 4 _ tLn (0, 0) hq6]; rfl
    have q5 : w6.cell? ⟨wc.heap.size, 5, none⟩ = some (.int .i64 (-1)) := by rw [cell_of_row _ _ 5 _ tLn (0, 0) hq6]; rfl
    clear hq5 hq6 hb7 hb75 hb76 b5
    go_wp2_with (at_builtin; refine wpList_appendN rfl _ _ 27 rfl w1.heap.size tLn (.agg #[.int .i64 0, .int .i64 0, .bool false, .int .u8 0, .int .u8 0, .int .i64 0]) 6 40 Tryz.underlying27 lnR rfl (by decide) _ _ _ rfl (HO5.out.alloc _) [.int .i64 n, .int .i64 x17, .bool d18, .int .u8 x19, .int .u8 x6, .int .i64 (-1)] _ 1 rfl (at_alloc rfl) rfl (by simp [Value.oneCell']) (by omega) (by omega) (HB5.out.alloc HB5.out.size _) (by have := HB5.out.size; simp; omega) ?_; intro v1 w7 hown1 hbel1)
    go_roundg (R.length - (m + 1))
    case measure => omega
    case rel => exact ⟨m + 1, by simp, by omega, rfl, by rw [take_next HLM.out, List.flatten_append, HLN2.out]; simpa using hown1, hbel1⟩
  ·obtain rfl : m = R.length := by omega
   have hLL := HRL.out
   go_wp2
   go_ret
   refine ⟨_, rfl, ?_, HBW.out⟩
   have := HOWN.out
   rw [hLL, List.take_length] at this
   exact owns_base this HB01.out.size
theorem found_is {w : World} {v : Value} {D : FnD} (h : FnOk' w v D) (hs : Small D) : FoundC D w v := fun w1 hb => found_c (h.frz hb.block) hs
end Go.Proofs.YthdcahkedlijpaaGreat.loan
