/- LoansKilled: the law answers true for every function and number. -/
import Derived.Test.YthdcahkedlijpaaGreatLoanV
import Derived.Test.YthdcahkedlijpaaGreatAlive21
namespace Go.Proofs.YthdcahkedlijpaaGreat.loan
open Go.RowKit Go.Proofs.YthdcahkedlijpaaGreat Go.Proofs.YthdcahkedlijpaaGreat.Am
set_option linter.unusedVariables false
def YesK (w : World) (e : Ending) (w' : World) : Prop := e = .returned (.bool true) ∧ Below w.heap.size w w'
set_option maxRecDepth 100000 in
set_option maxHeartbeats 4000000 in
theorem kil_not {w : World} {v : Value} {D : FnD} (h : FnOk' w v D) {z : Int} (hf : fitF D = false ∨ (fitF D = true ∧ (z < 0 ∨ (sizeN D : Int) ≤ z))) : Calls Tryz.prog 6 #[v, .int .i64 z] w (YesK w) := by
  have hT := fun w1 (hb : Below w.heap.size w w1) => fit_c (h.frz hb.block)
  have hS := fun (hs : Small D) w1 (hb : Below w.heap.size w w1) => size_c (h.frz hb.block) hs
  rw [h.eq] at hT hS ⊢
  clear h
  have B0 : Box (w.alloc (.cells #[.int .i64 D.p, .bool D.u, D.lv, D.bv] tF)) w.heap.size tF (.int .i64 D.p) (.bool D.u) D.lv D.bv := Box.mk rfl
  have b0 : Below w.heap.size w (w.alloc (.cells #[.int .i64 D.p, .bool D.u, D.lv, D.bv] tF)) := (Below.refl _ _).alloc (Nat.le_refl _) _
  rcases hf with hf | ⟨hf, hz | hz⟩
  · rw [hf] at hT
    have HT := Lib.hid hT
    clear hT hS
    go_enter Tryz.func6, Tryz.ntmps6
    go_wp2_with (first | (go_at_call 22; refine (alive21 _).mono ?_; rintro e w1 ⟨rfl, b1⟩; obtain ⟨y0, y1, y2, y3⟩ := (B0.below b1).cells) | (go_at_call 23; refine (HT.out _ (b0.trans (b1.mono b0.size))).mono ?_; rintro e w2 ⟨rfl, b2⟩))
    go_ret
    have b01 := b0.trans (b1.mono b0.size)
    exact ⟨rfl, b01.trans (b2.mono b01.size)⟩
  · rw [hf] at hT
    have HT := Lib.hid hT
    clear hT hS hf
    go_enter Tryz.func6, Tryz.ntmps6
    go_wp2_with (first | (go_at_call 22; refine (alive21 _).mono ?_; rintro e w1 ⟨rfl, b1⟩; obtain ⟨y0, y1, y2, y3⟩ := (B0.below b1).cells) | (go_at_call 23; refine (HT.out _ (b0.trans (b1.mono b0.size))).mono ?_; rintro e w2 ⟨rfl, b2⟩))
    go_ret
    have b01 := b0.trans (b1.mono b0.size)
    exact ⟨rfl, b01.trans (b2.mono b01.size)⟩
  · have hsm := small_of (fit_chk hf)
    rw [hf] at hT
    have HT := Lib.hid hT
    have HS := Lib.hid (hS hsm)
    have hz0 : ¬ z < 0 := by omega
    have hz1 : decide (z ≥ (sizeN D : Int)) = true := decide_eq_true hz
    clear hT hS hf hsm
    go_enter Tryz.func6, Tryz.ntmps6
    go_wp2_with (first | (go_at_call 22; refine (alive21 _).mono ?_; rintro e w1 ⟨rfl, b1⟩; obtain ⟨y0, y1, y2, y3⟩ := (B0.below b1).cells) | (go_at_call 23; refine (HT.out _ (b0.trans (b1.mono b0.size))).mono ?_; rintro e w2 ⟨rfl, b2⟩; obtain ⟨z0, z1, z2, z3⟩ := ((B0.below b1).below b2).cells) | (go_at_call 24; refine (HS.out _ ((b0.trans (b1.mono b0.size)).trans (b2.mono (b0.trans (b1.mono b0.size)).size))).mono ?_; rintro e w3 ⟨rfl, b3⟩))
    go_ret
    have b02 := (b0.trans (b1.mono b0.size)).trans (b2.mono (b0.trans (b1.mono b0.size)).size)
    exact ⟨rfl, b02.trans (b3.mono b02.size)⟩
set_option maxRecDepth 100000 in
set_option maxHeartbeats 16000000 in
theorem kil_main {w : World} {v : Value} {D : FnD} (h : FnOk' w v D) (hf : fitF D = true) {n : Nat} (hn : n < sizeN D) : Calls Tryz.prog 6 #[v, .int .i64 (n : Nat)] w (YesK w) := by
  have hc := fit_chk hf
  have hsm := small_of hc
  have hT := fun w1 (hb : Below w.heap.size w w1) => fit_c (h.frz hb.block)
  have hA := fun w1 (hb : Below w.heap.size w w1) => lall_c (h.frz hb.block) hsm (hc ▸ chk_is (h.frz hb.block))
  have hS := fun w1 (hb : Below w.heap.size w w1) => size_c (h.frz hb.block) hsm
  have hU := fun w1 (hb : Below w.heap.size w w1) => luses_c (h.frz hb.block) hc hn
  have hK := fun (k : Nat) (x0 a c d e : Int) (u : Bool) (hx : (lns D.bs (sizeN D))[k]? = some [.int .i64 x0, .int .i64 a, .bool u, .int .u8 c, .int .u8 d, .int .i64 e]) w1 (hb : Below w.heap.size w w1) => kills_c (h.frz hb.block) hc hx
  have HLIT := Lib.hid (fun (k : Nat) x (hx : (lns D.bs (sizeN D))[k]? = some x) => ln_lit h hx)
  rw [h.eq, hf] at hT
  rw [h.eq] at hA hS hU hK ⊢
  have HT := Lib.hid hT
  have HA := Lib.hid hA
  have HSZ := Lib.hid hS
  have HU := Lib.hid hU
  have HK := Lib.hid hK
  have hN6 : sizeN D ≤ 600 := hsm.start (Nat.le_refl _)
  have hN6I : (sizeN D : Int) ≤ 600 := by omega
  have hlen := lns_len (bs := D.bs) (sizeN D)
  have hnI : (n : Int) < (sizeN D : Int) := by omega
  have h0N : (0 : Int) ≤ (n : Int) := Int.natCast_nonneg _
  have hn1 : ¬ (n : Int) < 0 := by omega
  have hn2 : decide ((n : Int) ≥ (sizeN D : Int)) = false := decide_eq_false (by omega)
  have hn3 : ¬ (sizeN D : Int) ≤ (n : Int) := by omega
  clear hT hA hS hU hK h hf hc hsm
  obtain ⟨L, hL⟩ : ∃ L, L = lns D.bs (sizeN D) := ⟨_, rfl⟩
  rw [← hL] at hlen
  have hL6I : (L.length : Int) ≤ 600 := by omega
  have HLE := Lib.hid hL
  have B0 : Box (w.alloc (.cells #[.int .i64 D.p, .bool D.u, D.lv, D.bv] tF)) w.heap.size tF (.int .i64 D.p) (.bool D.u) D.lv D.bv := Box.mk rfl
  have b0 : Below w.heap.size w (w.alloc (.cells #[.int .i64 D.p, .bool D.u, D.lv, D.bv] tF)) := (Below.refl _ _).alloc (Nat.le_refl _) _
  go_enter Tryz.func6, Tryz.ntmps6
  go_upto_region 8 with (first | (go_at_call 22; refine (alive21 _).mono ?_; rintro e w1 ⟨rfl, b1⟩; have B1 := B0.below b1; have b01 := b0.trans (b1.mono b0.size); obtain ⟨y0, y1, y2, y3⟩ := B1.cells) | (go_at_call 23; refine (HT.out _ b01).mono ?_; rintro e w2 ⟨rfl, b2⟩; have B2 := B1.below b2; have b02 := b01.trans (b2.mono b01.size); obtain ⟨z0, z1, z2, z3⟩ := B2.cells) | (go_at_call 24; refine (HSZ.out _ b02).mono ?_; rintro e wS ⟨rfl, bS⟩; have BS := B2.below bS; have b0S := b02.trans (bS.mono b02.size); obtain ⟨g0, g1, g2, g3⟩ := BS.cells) | (go_at_call 11; refine (HA.out _ b0S).mono ?_; rintro e w3 ⟨s, rfl, hnl⟩; have b3 := hnl.2; have B3 := BS.below b3; have b03 := b0S.trans (b3.mono b0S.size); obtain ⟨v0, v1, v2, v3⟩ := B3.cells) | (go_at_call 26; refine (HU.out _ b03).mono ?_; rintro e w4 ⟨m, rfl, b4⟩))
  rw [← hL] at hnl
  obtain ⟨Al, cl, rfl, hrl⟩ := hnl.read (by decide) (fun x hx => lns_6 (by rw [hL] at hx; exact hx))
  have hrl4 := hrl.below b4
  have HB4 := Lib.hid (B3.below b4)
  have HB04 := Lib.hid (b03.trans (b4.mono b03.size))
  have HRL := Lib.hid hrl4
  generalize hset : setN D.bs n = st
  have HST := Lib.hid hset
  clear hnl hrl hrl4 B0 b0 b1 B1 b01 y0 y1 y2 y3 b2 B2 b02 z0 z1 z2 z3 bS BS b0S g0 g1 g2 g3 b3 B3 b03 v0 v1 v2 v3 b4 HT HA HU hL hset
  go_wp2
  go_loopg [11] L.length (fun g s11 wr => ∃ k : Nat, s11 = .int .i64 k ∧ k ≤ L.length ∧ g = L.length - k ∧ Below w4.heap.size w4 wr)
  case atStart => exact ⟨0, rfl, Nat.zero_le _, rfl, Below.refl _ _⟩
  case round =>
    obtain ⟨k, rfl, hk, rfl, hbel⟩ := hrel
    have h0K : (0 : Int) ≤ (k : Int) := Int.natCast_nonneg _
    rcases Nat.lt_or_ge k L.length with hkl | hkg
    · have hkI : (k : Int) < (L.length : Int) := by omega
      obtain ⟨x, hx⟩ : ∃ x, L[k]? = some x := ⟨_, List.getElem?_eq_getElem hkl⟩
      have hx2 := hx
      rw [HLE.out] at hx2
      obtain ⟨x0, xa, xc, xd, xe, u, rfl⟩ := HLIT.out k x hx2
      obtain ⟨gl, ol, eL, hgl, hrk⟩ := RowsAt.get HRL.out hbel hx
      subst eL
      have r1 := hrk 1 _ rfl
      have r2 := hrk 2 _ rfl
      obtain ⟨t0, t1, t2, t3⟩ := (HB4.out.below hbel).cells
      have hbw := HB04.out.trans (hbel.mono HB04.out.size)
      have hH := (HB4.out.below hbel).lt
      have hglr : gl < wr.heap.size := Nat.lt_of_lt_of_le hgl hbel.size
      have HX2 := Lib.hid hx2
      have HBW := Lib.hid hbw
      have H4R := Lib.hid hbel
      clear hx hx2 hrk hbw hbel
      go_upto_region 12 with (go_at_call 13; refine (HK.out k _ _ _ _ _ _ HX2.out _ HBW.out).mono ?_; rintro e w5 ⟨gk, rfl, hgk, hck, b5⟩)
      have hb05 := HBW.out.trans (b5.mono HBW.out.size)
      have H45 := Lib.hid (H4R.out.trans (b5.mono H4R.out.size))
      have hH5 : w.heap.size < w5.heap.size := Nat.lt_of_lt_of_le hH b5.size
      have hgl5 : gl < w5.heap.size := Nat.lt_of_lt_of_le hglr b5.size
      have d0 := (b5.cell (p := ⟨w.heap.size, 0, none⟩) hH).trans t0
      have d1 := (b5.cell (p := ⟨w.heap.size, 1, none⟩) hH).trans t1
      have d2 := (b5.cell (p := ⟨w.heap.size, 2, none⟩) hH).trans t2
      have d3 := (b5.cell (p := ⟨w.heap.size, 3, none⟩) hH).trans t3
      have d4 := hck n hn
      have d5 := (b5.cell (p := ⟨gl, ol + k * 6 + 1, none⟩) hglr).trans r1
      have d6 := (b5.cell (p := ⟨gl, ol + k * 6 + 2, none⟩) hglr).trans r2
      have hkb : kilB D.bs u xa n = (u && (st == xa)) := by unfold kilB; rw [HST.out]
      rw [hkb] at d4
      have HCK := Lib.hid hck
      clear hck hkb t0 t1 t2 t3 r1 r2 b5 hb05 hH hglr
      have hb05 : Below w.heap.size w w5 := HB04.out.trans (H45.out.mono HB04.out.size)
      cases u with
      | true =>
        cases hs : (st == xa) with
        | true =>
          have hs2 : (xa == st) = true := by rw [beq_iff_eq] at hs ⊢; exact hs.symm
          rw [hs] at d4
          have d4 : w5.cell? ⟨gk, n, none⟩ = some (.bool true) := d4
          clear hs
          refine region_cells [⟨w.heap.size, 0, none⟩, ⟨w.heap.size, 1, none⟩, ⟨w.heap.size, 2, none⟩, ⟨w.heap.size, 3, none⟩, ⟨gk, n, none⟩, ⟨gl, ol + k * 6 + 1, none⟩, ⟨gl, ol + k * 6 + 2, none⟩] [(0, true), (1, true), (2, true), (3, true), (4, true), (5, true), (6, false), (7, true), (8, true), (9, true), (10, true), (11, true), (12, true), (13, true), (14, true), (15, true), (16, true), (17, true), (18, true), (19, true), (20, true), (21, true), (22, true), (23, true), (24, true), (25, true), (26, true), (27, true), (28, true), (29, true), (30, true), (31, true)] (by kernel_rfl) (by kernel_rfl) (by decide) (by kernel_rfl) (fun _ _ _ _ _ h => h) ?_
          have d0 : w5.drew.cell? ⟨w.heap.size, 0, none⟩ = _ := d0
          have d1 : w5.drew.cell? ⟨w.heap.size, 1, none⟩ = _ := d1
          have d2 : w5.drew.cell? ⟨w.heap.size, 2, none⟩ = _ := d2
          have d3 : w5.drew.cell? ⟨w.heap.size, 3, none⟩ = _ := d3
          have d4 : w5.drew.cell? ⟨gk, n, none⟩ = _ := d4
          have d5 : w5.drew.cell? ⟨gl, ol + k * 6 + 1, none⟩ = _ := d5
          have d6 : w5.drew.cell? ⟨gl, ol + k * 6 + 2, none⟩ = _ := d6
          repeat (first | (refine SeqC.take (v := ?_) rfl (by rfl) (fun W hW => ?_) ?_; rotate_left; (focus (have q0 := hW.get (by simp) d0; have q1 := hW.get (by simp) d1; have q2 := hW.get (by simp) d2; have q3 := hW.get (by simp) d3; have q4 := hW.get (by simp) d4; have q5 := hW.get (by simp) d5; have q6 := hW.get (by simp) d6; go_simp; with_reducible rfl)); simp only [Act.put, List.setIfInBounds_toArray, List.set_cons_zero, List.set_cons_succ]) | (refine SeqC.skip rfl (by rfl) ?_; simp only [Act.put, List.setIfInBounds_toArray, List.set_cons_zero, List.set_cons_succ]))
          refine SeqC.call (f := ?_) (args := ?_) rfl (by rfl) ?_ ?_
          rotate_left 2
          · (go_simp; first | with_reducible rfl | (refine ⟨?_, ?_⟩ <;> with_reducible rfl))
          refine (HSZ.out _ hb05.drew).mono ?_
          rintro e we ⟨rfl, be⟩
          refine ⟨_, rfl, Cells.of_ext be (by intro p hp; simp only [List.mem_cons, List.not_mem_nil, or_false] at hp; rcases hp with rfl | rfl | rfl | rfl | rfl | rfl | rfl <;> first | exact hH5 | exact hgk | exact hgl5), ?_⟩
          simp only [Act.put, List.setIfInBounds_toArray, List.set_cons_zero, List.set_cons_succ]
          have d0 : we.cell? ⟨w.heap.size, 0, none⟩ = _ := (be.cell (p := ⟨w.heap.size, 0, none⟩) hH5).trans d0
          have d1 : we.cell? ⟨w.heap.size, 1, none⟩ = _ := (be.cell (p := ⟨w.heap.size, 1, none⟩) hH5).trans d1
          have d2 : we.cell? ⟨w.heap.size, 2, none⟩ = _ := (be.cell (p := ⟨w.heap.size, 2, none⟩) hH5).trans d2
          have d3 : we.cell? ⟨w.heap.size, 3, none⟩ = _ := (be.cell (p := ⟨w.heap.size, 3, none⟩) hH5).trans d3
          have d4 : we.cell? ⟨gk, n, none⟩ = _ := (be.cell (p := ⟨gk, n, none⟩) hgk).trans d4
          have d5 : we.cell? ⟨gl, ol + k * 6 + 1, none⟩ = _ := (be.cell (p := ⟨gl, ol + k * 6 + 1, none⟩) hgl5).trans d5
          have d6 : we.cell? ⟨gl, ol + k * 6 + 2, none⟩ = _ := (be.cell (p := ⟨gl, ol + k * 6 + 2, none⟩) hgl5).trans d6
          repeat (first | (refine SeqC.take (v := ?_) rfl (by rfl) (fun W hW => ?_) ?_; rotate_left; (focus (have q0 := hW.get (by simp) d0; have q1 := hW.get (by simp) d1; have q2 := hW.get (by simp) d2; have q3 := hW.get (by simp) d3; have q4 := hW.get (by simp) d4; have q5 := hW.get (by simp) d5; have q6 := hW.get (by simp) d6; go_simp; with_reducible rfl)); simp only [Act.put, List.setIfInBounds_toArray, List.set_cons_zero, List.set_cons_succ]) | (refine SeqC.skip rfl (by rfl) ?_; simp only [Act.put, List.setIfInBounds_toArray, List.set_cons_zero, List.set_cons_succ]))
          refine SeqC.done ?_
          have h5e : Below w5.heap.size w5 we := (Below.refl _ _).drew.trans be
          clear d0 d1 d2 d3 d4
          clear d5
          go_wp2
          go_roundg (L.length - (k + 1))
          case measure => omega
          case rel => exact ⟨k + 1, by simp, by omega, rfl, H45.out.trans (h5e.mono H45.out.size)⟩
        | false =>
          have hs2 : (xa == st) = false := by rw [beq_eq_false_iff_ne] at hs ⊢; exact fun e => hs e.symm
          rw [hs] at d4
          have d4 : w5.cell? ⟨gk, n, none⟩ = some (.bool false) := d4
          clear hs
          refine region_cells [⟨w.heap.size, 0, none⟩, ⟨w.heap.size, 1, none⟩, ⟨w.heap.size, 2, none⟩, ⟨w.heap.size, 3, none⟩, ⟨gk, n, none⟩, ⟨gl, ol + k * 6 + 1, none⟩, ⟨gl, ol + k * 6 + 2, none⟩] [(0, true), (1, true), (2, true), (3, true), (4, true), (5, true), (6, false), (7, true), (8, true), (9, true), (10, true), (11, true), (12, true), (13, true), (14, true), (15, true), (16, true), (17, true), (18, true), (19, true), (20, true), (21, true), (22, true), (23, true), (24, true), (25, true), (26, true), (27, true), (28, true), (29, true), (30, true), (31, true)] (by kernel_rfl) (by kernel_rfl) (by decide) (by kernel_rfl) (fun _ _ _ _ _ h => h) ?_
          have d0 : w5.drew.cell? ⟨w.heap.size, 0, none⟩ = _ := d0
          have d1 : w5.drew.cell? ⟨w.heap.size, 1, none⟩ = _ := d1
          have d2 : w5.drew.cell? ⟨w.heap.size, 2, none⟩ = _ := d2
          have d3 : w5.drew.cell? ⟨w.heap.size, 3, none⟩ = _ := d3
          have d4 : w5.drew.cell? ⟨gk, n, none⟩ = _ := d4
          have d5 : w5.drew.cell? ⟨gl, ol + k * 6 + 1, none⟩ = _ := d5
          have d6 : w5.drew.cell? ⟨gl, ol + k * 6 + 2, none⟩ = _ := d6
          repeat (first | (refine SeqC.take (v := ?_) rfl (by rfl) (fun W hW => ?_) ?_; rotate_left; (focus (have q0 := hW.get (by simp) d0; have q1 := hW.get (by simp) d1; have q2 := hW.get (by simp) d2; have q3 := hW.get (by simp) d3; have q4 := hW.get (by simp) d4; have q5 := hW.get (by simp) d5; have q6 := hW.get (by simp) d6; go_simp; with_reducible rfl)); simp only [Act.put, List.setIfInBounds_toArray, List.set_cons_zero, List.set_cons_succ]) | (refine SeqC.skip rfl (by rfl) ?_; simp only [Act.put, List.setIfInBounds_toArray, List.set_cons_zero, List.set_cons_succ]))
          refine SeqC.call (f := ?_) (args := ?_) rfl (by rfl) ?_ ?_
          rotate_left 2
          · (go_simp; first | with_reducible rfl | (refine ⟨?_, ?_⟩ <;> with_reducible rfl))
          refine (HSZ.out _ hb05.drew).mono ?_
          rintro e we ⟨rfl, be⟩
          refine ⟨_, rfl, Cells.of_ext be (by intro p hp; simp only [List.mem_cons, List.not_mem_nil, or_false] at hp; rcases hp with rfl | rfl | rfl | rfl | rfl | rfl | rfl <;> first | exact hH5 | exact hgk | exact hgl5), ?_⟩
          simp only [Act.put, List.setIfInBounds_toArray, List.set_cons_zero, List.set_cons_succ]
          have d0 : we.cell? ⟨w.heap.size, 0, none⟩ = _ := (be.cell (p := ⟨w.heap.size, 0, none⟩) hH5).trans d0
          have d1 : we.cell? ⟨w.heap.size, 1, none⟩ = _ := (be.cell (p := ⟨w.heap.size, 1, none⟩) hH5).trans d1
          have d2 : we.cell? ⟨w.heap.size, 2, none⟩ = _ := (be.cell (p := ⟨w.heap.size, 2, none⟩) hH5).trans d2
          have d3 : we.cell? ⟨w.heap.size, 3, none⟩ = _ := (be.cell (p := ⟨w.heap.size, 3, none⟩) hH5).trans d3
          have d4 : we.cell? ⟨gk, n, none⟩ = _ := (be.cell (p := ⟨gk, n, none⟩) hgk).trans d4
          have d5 : we.cell? ⟨gl, ol + k * 6 + 1, none⟩ = _ := (be.cell (p := ⟨gl, ol + k * 6 + 1, none⟩) hgl5).trans d5
          have d6 : we.cell? ⟨gl, ol + k * 6 + 2, none⟩ = _ := (be.cell (p := ⟨gl, ol + k * 6 + 2, none⟩) hgl5).trans d6
          repeat (first | (refine SeqC.take (v := ?_) rfl (by rfl) (fun W hW => ?_) ?_; rotate_left; (focus (have q0 := hW.get (by simp) d0; have q1 := hW.get (by simp) d1; have q2 := hW.get (by simp) d2; have q3 := hW.get (by simp) d3; have q4 := hW.get (by simp) d4; have q5 := hW.get (by simp) d5; have q6 := hW.get (by simp) d6; go_simp; with_reducible rfl)); simp only [Act.put, List.setIfInBounds_toArray, List.set_cons_zero, List.set_cons_succ]) | (refine SeqC.skip rfl (by rfl) ?_; simp only [Act.put, List.setIfInBounds_toArray, List.set_cons_zero, List.set_cons_succ]))
          refine SeqC.done ?_
          have h5e : Below w5.heap.size w5 we := (Below.refl _ _).drew.trans be
          clear d0 d1 d2 d3 d4
          clear d5
          go_wp2
          go_roundg (L.length - (k + 1))
          case measure => omega
          case rel => exact ⟨k + 1, by simp, by omega, rfl, H45.out.trans (h5e.mono H45.out.size)⟩
      | false =>
        have d4 : w5.cell? ⟨gk, n, none⟩ = some (.bool false) := d4
        refine region_cells [⟨w.heap.size, 0, none⟩, ⟨w.heap.size, 1, none⟩, ⟨w.heap.size, 2, none⟩, ⟨w.heap.size, 3, none⟩, ⟨gk, n, none⟩, ⟨gl, ol + k * 6 + 1, none⟩, ⟨gl, ol + k * 6 + 2, none⟩] [(0, true), (1, true), (2, true), (3, true), (4, true), (5, true), (6, false), (7, true), (8, true), (9, true), (10, true), (11, true), (12, true), (13, true), (14, true), (15, true), (16, true), (17, true), (18, true), (19, true), (20, true), (21, true), (22, true), (23, true), (24, true), (25, true), (26, true), (27, true), (28, true), (29, true), (30, true), (31, true)] (by kernel_rfl) (by kernel_rfl) (by decide) (by kernel_rfl) (fun _ _ _ _ _ h => h) ?_
        have d0 : w5.drew.cell? ⟨w.heap.size, 0, none⟩ = _ := d0
        have d1 : w5.drew.cell? ⟨w.heap.size, 1, none⟩ = _ := d1
        have d2 : w5.drew.cell? ⟨w.heap.size, 2, none⟩ = _ := d2
        have d3 : w5.drew.cell? ⟨w.heap.size, 3, none⟩ = _ := d3
        have d4 : w5.drew.cell? ⟨gk, n, none⟩ = _ := d4
        have d5 : w5.drew.cell? ⟨gl, ol + k * 6 + 1, none⟩ = _ := d5
        have d6 : w5.drew.cell? ⟨gl, ol + k * 6 + 2, none⟩ = _ := d6
        repeat (first | (refine SeqC.take (v := ?_) rfl (by rfl) (fun W hW => ?_) ?_; rotate_left; (focus (have q0 := hW.get (by simp) d0; have q1 := hW.get (by simp) d1; have q2 := hW.get (by simp) d2; have q3 := hW.get (by simp) d3; have q4 := hW.get (by simp) d4; have q5 := hW.get (by simp) d5; have q6 := hW.get (by simp) d6; go_simp; with_reducible rfl)); simp only [Act.put, List.setIfInBounds_toArray, List.set_cons_zero, List.set_cons_succ]) | (refine SeqC.skip rfl (by rfl) ?_; simp only [Act.put, List.setIfInBounds_toArray, List.set_cons_zero, List.set_cons_succ]))
        refine SeqC.call (f := ?_) (args := ?_) rfl (by rfl) ?_ ?_
        rotate_left 2
        · (go_simp; first | with_reducible rfl | (refine ⟨?_, ?_⟩ <;> with_reducible rfl))
        refine (HSZ.out _ hb05.drew).mono ?_
        rintro e we ⟨rfl, be⟩
        refine ⟨_, rfl, Cells.of_ext be (by intro p hp; simp only [List.mem_cons, List.not_mem_nil, or_false] at hp; rcases hp with rfl | rfl | rfl | rfl | rfl | rfl | rfl <;> first | exact hH5 | exact hgk | exact hgl5), ?_⟩
        simp only [Act.put, List.setIfInBounds_toArray, List.set_cons_zero, List.set_cons_succ]
        have d0 : we.cell? ⟨w.heap.size, 0, none⟩ = _ := (be.cell (p := ⟨w.heap.size, 0, none⟩) hH5).trans d0
        have d1 : we.cell? ⟨w.heap.size, 1, none⟩ = _ := (be.cell (p := ⟨w.heap.size, 1, none⟩) hH5).trans d1
        have d2 : we.cell? ⟨w.heap.size, 2, none⟩ = _ := (be.cell (p := ⟨w.heap.size, 2, none⟩) hH5).trans d2
        have d3 : we.cell? ⟨w.heap.size, 3, none⟩ = _ := (be.cell (p := ⟨w.heap.size, 3, none⟩) hH5).trans d3
        have d4 : we.cell? ⟨gk, n, none⟩ = _ := (be.cell (p := ⟨gk, n, none⟩) hgk).trans d4
        have d5 : we.cell? ⟨gl, ol + k * 6 + 1, none⟩ = _ := (be.cell (p := ⟨gl, ol + k * 6 + 1, none⟩) hgl5).trans d5
        have d6 : we.cell? ⟨gl, ol + k * 6 + 2, none⟩ = _ := (be.cell (p := ⟨gl, ol + k * 6 + 2, none⟩) hgl5).trans d6
        repeat (first | (refine SeqC.take (v := ?_) rfl (by rfl) (fun W hW => ?_) ?_; rotate_left; (focus (have q0 := hW.get (by simp) d0; have q1 := hW.get (by simp) d1; have q2 := hW.get (by simp) d2; have q3 := hW.get (by simp) d3; have q4 := hW.get (by simp) d4; have q5 := hW.get (by simp) d5; have q6 := hW.get (by simp) d6; go_simp; with_reducible rfl)); simp only [Act.put, List.setIfInBounds_toArray, List.set_cons_zero, List.set_cons_succ]) | (refine SeqC.skip rfl (by rfl) ?_; simp only [Act.put, List.setIfInBounds_toArray, List.set_cons_zero, List.set_cons_succ]))
        refine SeqC.done ?_
        have h5e : Below w5.heap.size w5 we := (Below.refl _ _).drew.trans be
        clear d0 d1 d2 d3 d4
        go_wp2
        go_loopg [14] (sizeN D) (fun g s14 wy => ∃ m : Nat, s14 = .int .i64 m ∧ m ≤ sizeN D ∧ g = sizeN D - m ∧ wy = we)
        case atStart => exact ⟨0, rfl, Nat.zero_le _, rfl, rfl⟩
        case round =>
          obtain ⟨m, rfl, hm, rfl, rfl⟩ := hrel
          have h0M : (0 : Int) ≤ (m : Int) := Int.natCast_nonneg _
          rcases Nat.lt_or_ge m (sizeN D) with hml | hmg
          · have hmI : (m : Int) < (sizeN D : Int) := by omega
            have cm := (h5e.cell (p := ⟨gk, m, none⟩) hgk).trans (HCK.out m hml)
            have hkf : kilB D.bs false xa m = false := rfl
            rw [hkf] at cm
            clear hkf
            go_wp2
            go_roundg (sizeN D - (m + 1))
            case measure => omega
            case rel => exact ⟨m + 1, by simp, by omega, rfl, rfl⟩
          · obtain rfl : m = sizeN D := by omega
            go_wp2
            go_roundg (L.length - (k + 1))
            case measure => omega
            case rel => exact ⟨k + 1, by simp, by omega, rfl, H45.out.trans (h5e.mono H45.out.size)⟩
    · obtain rfl : k = L.length := by omega
      go_wp2
      go_ret
      exact ⟨rfl, HB04.out.trans (hbel.mono HB04.out.size)⟩
theorem kil_walk {w : World} {v v1 : Value} {D : FnD} (h : FnOk' w v D) (hz : Kd.ok (.i .i64) v1) : Calls Tryz.prog 6 #[v, v1] w (YesK w) := by
  obtain ⟨z, rfl, _⟩ := hz
  cases hf : fitF D with
  | false => exact kil_not h (.inl hf)
  | true =>
    by_cases h0 : z < 0
    · exact kil_not h (.inr ⟨hf, .inl h0⟩)
    · by_cases h1 : (sizeN D : Int) ≤ z
      · exact kil_not h (.inr ⟨hf, .inr h1⟩)
      · obtain ⟨n, rfl⟩ : ∃ n : Nat, z = (n : Int) := ⟨z.toNat, by omega⟩
        exact kil_main h hf (by omega)
end Go.Proofs.YthdcahkedlijpaaGreat.loan
