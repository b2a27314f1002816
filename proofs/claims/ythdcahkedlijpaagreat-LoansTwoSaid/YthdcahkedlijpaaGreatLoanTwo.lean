/- LoansTwo: the law answers true for every function. -/
import Derived.Test.YthdcahkedlijpaaGreatTwoL
import Derived.Test.YthdcahkedlijpaaGreatAlive21
namespace Go.Proofs.YthdcahkedlijpaaGreat.ltwo
open Go.RowKit Go.Proofs.YthdcahkedlijpaaGreat Go.Proofs.YthdcahkedlijpaaGreat.Am Go.Proofs.YthdcahkedlijpaaGreat.loan
set_option linter.unusedVariables false
set_option maxRecDepth 100000 in
set_option maxHeartbeats 4000000 in
theorem two_not {w : World} {v : Value} {D : FnD} (h : FnOk' w v D) (hf : fitF D = false) : Calls Tryz.prog 7 #[v] w (Yes w) := by
  have hT := fun w1 (hb : Below w.heap.size w w1) => fit_c (h.frz hb.block)
  rw [h.eq, hf] at hT
  rw [h.eq]
  have HT := Lib.hid hT
  clear hT h hf
  have B0 : Box (w.alloc (.cells #[.int .i64 D.p, .bool D.u, D.lv, D.bv] tF)) w.heap.size tF (.int .i64 D.p) (.bool D.u) D.lv D.bv := Box.mk rfl
  have b0 : Below w.heap.size w (w.alloc (.cells #[.int .i64 D.p, .bool D.u, D.lv, D.bv] tF)) := (Below.refl _ _).alloc (Nat.le_refl _) _
  go_enter Tryz.func7, Tryz.ntmps7
  go_wp2_with (first | (go_at_call 22; refine (alive21 _).mono ?_; rintro e w1 ⟨rfl, b1⟩; obtain ⟨y0, y1, y2, y3⟩ := (B0.below b1).cells) | (go_at_call 23; refine (HT.out _ (b0.trans (b1.mono b0.size))).mono ?_; rintro e w2 ⟨rfl, b2⟩))
  go_ret
  have b01 := b0.trans (b1.mono b0.size)
  exact ⟨rfl, b01.trans (b2.mono b01.size)⟩
theorem mem_next {ts : List Int} {i : Nat} {z j : Int} (h : ts[i]? = some z) : decide (j ∈ ts.take (i + 1)) = (decide (j ∈ ts.take i) || (z == j)) := by
  rw [List.take_add_one, h, Bool.eq_iff_iff]
  simp only [Option.toList_some, List.mem_append, List.mem_singleton, Bool.or_eq_true, decide_eq_true_eq, beq_iff_eq]
  exact ⟨fun k => k.imp id Eq.symm, fun k => k.imp id Eq.symm⟩
theorem flat_ones (l : List Int) : (l.map fun x => [Value.int .i64 x]).flatten = l.map (Value.int .i64) := by
  induction l with
  | nil => rfl
  | cons x l ih => rw [List.map_cons, List.flatten_cons, ih]; rfl
set_option maxRecDepth 100000 in
set_option maxHeartbeats 16000000 in
theorem two_main {w : World} {v : Value} {D : FnD} (h : FnOk' w v D) (hf : fitF D = true) : Calls Tryz.prog 7 #[v] w (Yes w) := by
  have hc := fit_chk hf
  have hsm := small_of hc
  have hT := fun w1 (hb : Below w.heap.size w w1) => fit_c (h.frz hb.block)
  have hA := fun w1 (hb : Below w.heap.size w w1) => lall_c (h.frz hb.block) hsm (hc ▸ chk_is (h.frz hb.block))
  have hW := fun w1 (hb : Below w.heap.size w w1) => twosL.twos_list (h.frz hb.block) hc
  have HF := Lib.hid h
  obtain ⟨Av, cv, elv, hmv, _⟩ := ListAt.rows h.locals (by decide)
  have hcount := two_count h hc
  have hless := locs_less h hc
  have hone := fun n x (hx : lnN D.bs n = some x) (h3 : boT x = true) => two_loan h hc hx h3
  have halone := fun k i x y (hx : (lns D.bs (sizeN D))[k]? = some x) (hy : (lns D.bs (sizeN D))[i]? = some y) (hik : i ≠ k) (h3 : boT x = true) => two_alone h hc (Nat.le_refl _) hx hy hik h3
  rw [h.eq, hf, elv] at hT
  rw [h.eq, elv] at hA hW ⊢
  have HT := Lib.hid hT
  have HA := Lib.hid hA
  have HW := Lib.hid hW
  have HC := Lib.hid hc
  have HONE := Lib.hid hone
  have HALONE := Lib.hid halone
  have hN6 : sizeN D ≤ 600 := hsm.start (Nat.le_refl _)
  have hlen := lns_len (bs := D.bs) (sizeN D)
  clear hT hA hW h hf hc hsm elv hone halone
  obtain ⟨L, hL⟩ : ∃ L, L = lns D.bs (sizeN D) := ⟨_, rfl⟩
  obtain ⟨ts, hts⟩ : ∃ ts, ts = twosL.locs D := ⟨_, rfl⟩
  rw [← hL] at hlen
  rw [← hL, ← hts] at hcount
  rw [← hts] at hless
  have HCN := Lib.hid hcount
  have hL6 : L.length ≤ 600 := by omega
  have hL6I : (L.length : Int) ≤ 600 := by omega
  clear hcount hlen
  have B0 : Box (w.alloc (.cells #[.int .i64 D.p, .bool D.u, .slice Av D.ls.length cv, D.bv] tF)) w.heap.size tF (.int .i64 D.p) (.bool D.u) (.slice Av D.ls.length cv) D.bv := Box.mk rfl
  have b0 : Below w.heap.size w (w.alloc (.cells #[.int .i64 D.p, .bool D.u, .slice Av D.ls.length cv, D.bv] tF)) := (Below.refl _ _).alloc (Nat.le_refl _) _
  go_enter Tryz.func7, Tryz.ntmps7
  go_upto_region 8 with (first | (go_at_call 22; refine (alive21 _).mono ?_; rintro e w1 ⟨rfl, b1⟩; have B1 := B0.below b1; have b01 := b0.trans (b1.mono b0.size); obtain ⟨y0, y1, y2, y3⟩ := B1.cells) | (go_at_call 23; refine (HT.out _ b01).mono ?_; rintro e w2 ⟨rfl, b2⟩; have B2 := B1.below b2; have b02 := b01.trans (b2.mono b01.size); obtain ⟨z0, z1, z2, z3⟩ := B2.cells) | (go_at_call 11; refine (HA.out _ b02).mono ?_; rintro e w3 ⟨s, rfl, hnl⟩; have b3 := hnl.2; have B3 := B2.below b3; have b03 := b02.trans (b3.mono b02.size); obtain ⟨v0, v1, v2, v3⟩ := B3.cells) | (go_at_call 27; refine (HW.out _ b03).mono ?_; rintro e w4 ⟨sT, rfl, hown, b4⟩))
  rw [← hL] at hnl
  rw [← hts] at hown
  obtain ⟨Al, cl, rfl, hrl⟩ := hnl.read (by decide) (fun x hx => lns_6 (by rw [hL] at hx; exact hx))
  rw [← flat_ones] at hown
  obtain ⟨At, ct, rfl, hrt⟩ := RowsAt.own hown (List.length_map ..) (by decide) (fun x hx => by obtain ⟨_, _, rfl⟩ := List.mem_map.1 hx; rfl)
  rw [List.length_map] at *
  have hrl4 := hrl.below b4
  have HB4 := Lib.hid (B3.below b4)
  have HB04 := Lib.hid (b03.trans (b4.mono b03.size))
  have HRL := Lib.hid hrl4
  have HRT := Lib.hid hrt
  have HLE := Lib.hid hL
  have HTE := Lib.hid hts
  clear hnl hrl hrl4 hrt hown B0 b0 b1 B1 b01 y0 y1 y2 y3 b2 B2 b02 z0 z1 z2 z3 b3 B3 b03 v0 v1 v2 v3 b4 HT HA HW hL hts
  go_wp2
  go_loopg [8, 9] L.length (fun g s8 s9 wr => ∃ k : Nat, s9 = .int .i64 k ∧ k ≤ L.length ∧ g = L.length - k ∧ s8 = .int .i64 (fnd L k) ∧ Below w4.heap.size w4 wr)
  case atStart => exact ⟨0, rfl, Nat.zero_le _, rfl, rfl, Below.refl _ _⟩
  case round =>
    obtain ⟨k, rfl, hk, rfl, rfl, hbel⟩ := hrel
    have h0K : (0 : Int) ≤ (k : Int) := Int.natCast_nonneg _
    obtain ⟨f0, f1, f2⟩ := fnd_le (L := L) k
    rcases Nat.lt_or_ge k L.length with hkl | hkg
    · have hkI : (k : Int) < (L.length : Int) := by omega
      obtain ⟨x, hx⟩ : ∃ x, L[k]? = some x := ⟨_, List.getElem?_eq_getElem hkl⟩
      have hx2 := hx
      rw [HLE.out] at hx2
      obtain ⟨n, _, hln, _⟩ := lns_idx hx2
      obtain ⟨b, hb, st, hs, xa, xc, xd, xe, xu, hq1, hq2, hxe, hq3, hq4⟩ := ln_open HF.out hln
      clear hq1 hq2 hq3 hq4
      obtain ⟨gl, ol, eL, hgl, hrk⟩ := RowsAt.get HRL.out hbel hx
      subst eL
      have r4 := hrk 4 (.int .u8 xd) (by rw [hxe]; rfl)
      have r5 := hrk 5 (.int .i64 xe) (by rw [hxe]; rfl)
      have hbo : boT x = decide (xd = 3) := by rw [hxe]; rfl
      have h5 : cellI x 5 = xe := by rw [hxe]; rfl
      have hnx := fnd_next hx
      have HX := Lib.hid hx
      have HX2 := Lib.hid hx2
      have HLN := Lib.hid hln
      have HBO := Lib.hid hbo
      have H5 := Lib.hid h5
      have HNX := Lib.hid hnx
      have HBel := Lib.hid hbel
      obtain ⟨t0, t1, t2, t3⟩ := (HB4.out.below hbel).cells
      clear hx hx2 hln hbo h5 hnx hbel hrk hxe hb hs
      by_cases hd : xd = 3
      · subst hd
        have h3 : boT x = true := by rw [HBO.out]; rfl
        obtain ⟨j, hj, hj5, hj1, hmem, _⟩ := HONE.out n x HLN.out h3
        rw [H5.out] at hj5
        have hxe1 : 1 ≤ xe := by omega
        have HM := Lib.hid (show xe ∈ ts by rw [HTE.out, hj5]; exact hmem)
        clear hj5 hj hj1
        have H3 := Lib.hid h3
        have hlt : fnd L k < D.ls.length := by
          have h1 := HCN.out
          have h2 := (fnd_le (L := L) (k + 1)).2.1
          rw [HNX.out, h3] at h2
          have : b2i true = 1 := rfl
          omega
        have hg1 : decide (xe < 1) = false := decide_eq_false (by omega)
        have hg2 : decide (fnd L k ≥ (D.ls.length : Int)) = false := decide_eq_false (by omega)
        have hg3 : ¬ (D.ls.length : Int) ≤ fnd L k := by omega
        have hg5 : decide ((D.ls.length : Int) ≤ fnd L k) = false := decide_eq_false (by omega)
        have hg6 : fnd L k < (D.ls.length : Int) := hlt
        have hg4 : ¬ xe < 1 := by omega
        have HN1 := Lib.hid (show fnd L (k + 1) = fnd L k + 1 by rw [HNX.out, H3.out]; rfl)
        have hfk : fnd L k ≤ 600 := by omega
        clear hmem h3 f1
        go_wp2
        go_loopg [10] L.length (fun g s10 wx => ∃ i : Nat, s10 = .int .i64 i ∧ i ≤ L.length ∧ g = L.length - i ∧ Below w4.heap.size w4 wx)
        case atStart => exact ⟨0, rfl, Nat.zero_le _, rfl, HBel.out⟩
        case round =>
          clear t0 t1 t2 t3 r4 r5
          obtain ⟨i, rfl, hi, rfl, hbx⟩ := hrel
          obtain ⟨wx, rfl⟩ : ∃ wx : World, wx = wr := ⟨_, rfl⟩
          have HBX := Lib.hid hbx
          have h0I : (0 : Int) ≤ (i : Int) := Int.natCast_nonneg _
          obtain ⟨gl', ol', eL, _, hrk⟩ := RowsAt.get HRL.out hbx HX.out
          cases eL
          have c1 : wx.cell? ⟨gl, ol + k * 6 + 5, none⟩ = some (.int .i64 xe) := by
            obtain ⟨b, hb, st, hs, xa, xc, xd, xf, xu, _, _, hxe, _, _⟩ := ln_open HF.out HLN.out
            have := hrk 5 (.int .i64 xf) (by rw [hxe]; rfl)
            have e5 := H5.out
            rw [hxe] at e5
            have e5 : xf = xe := e5
            rw [e5] at this
            exact this
          clear hrk hbx
          rcases Nat.lt_or_ge i L.length with hil | hig
          · have hiI : (i : Int) < (L.length : Int) := by omega
            obtain ⟨y, hy⟩ : ∃ y, L[i]? = some y := ⟨_, List.getElem?_eq_getElem hil⟩
            have hy2 := hy
            rw [HLE.out] at hy2
            obtain ⟨n2, _, hln2, _⟩ := lns_idx hy2
            obtain ⟨b, hb, st, hs, ya, yc, yd, ye, yu, hq1, hq2, hye, hq3, hq4⟩ := ln_open HF.out hln2
            clear hq1 hq2 hq3 hq4
            obtain ⟨gl', ol', eL, _, hri⟩ := RowsAt.get HRL.out HBX.out hy
            cases eL
            have c0 := hri 5 (.int .i64 ye) (by rw [hye]; rfl)
            by_cases hik : i = k
            · subst hik
              have hie : ((i : Int) != (i : Int)) = false := by simp
              clear hy hy2 hln2 hb hs hye hri
              go_upto_region 19 with fail
              refine region_cells [⟨gl, ol + i * 6 + 5, none⟩, ⟨gl, ol + i * 6 + 5, none⟩] [(0, true), (1, true), (2, true), (3, true), (4, true), (5, true), (6, true), (7, true), (8, true), (9, true), (10, true), (11, true), (12, true), (13, true), (14, true), (15, true)] (by kernel_rfl) (by kernel_rfl) (by decide) (by kernel_rfl) (fun _ _ _ _ _ h => h) ?_
              have c0 : wx.drew.cell? ⟨gl, ol + i * 6 + 5, none⟩ = _ := c0
              have c1 : wx.drew.cell? ⟨gl, ol + i * 6 + 5, none⟩ = _ := c1
              repeat (first | (refine SeqC.take (v := ?_) rfl (by rfl) (fun W hW => ?_) ?_; rotate_left; (focus (have z0 := hW.get (by simp) c0; have z1 := hW.get (by simp) c1; go_simp; with_reducible rfl)); simp only [Act.put, List.setIfInBounds_toArray, List.set_cons_zero, List.set_cons_succ]) | (refine SeqC.skip rfl (by rfl) ?_; simp only [Act.put, List.setIfInBounds_toArray, List.set_cons_zero, List.set_cons_succ]))
              refine SeqC.done ?_
              clear c0 c1
              go_wp2
              go_roundg (L.length - (i + 1))
              case measure => omega
              case rel => exact ⟨i + 1, by simp, by omega, rfl, HBX.out.drew⟩
            · have hne : (ye == xe) = false := by
                have := HALONE.out k i x y HX2.out hy2 hik H3.out
                have hy5 : cellI y 5 = ye := by rw [hye]; rfl
                rw [hy5, H5.out] at this
                simpa using this
              have hie : ((i : Int) != (k : Int)) = true := by simp; omega
              clear hy hy2 hln2 hb hs hye hri
              go_upto_region 19 with fail
              refine region_cells [⟨gl, ol + i * 6 + 5, none⟩, ⟨gl, ol + k * 6 + 5, none⟩] [(0, true), (1, true), (2, true), (3, true), (4, true), (5, true), (6, true), (7, true), (8, true), (9, true), (10, true), (11, true), (12, true), (13, true), (14, true), (15, true)] (by kernel_rfl) (by kernel_rfl) (by decide) (by kernel_rfl) (fun _ _ _ _ _ h => h) ?_
              have c0 : wx.drew.cell? ⟨gl, ol + i * 6 + 5, none⟩ = _ := c0
              have c1 : wx.drew.cell? ⟨gl, ol + k * 6 + 5, none⟩ = _ := c1
              repeat (first | (refine SeqC.take (v := ?_) rfl (by rfl) (fun W hW => ?_) ?_; rotate_left; (focus (have z0 := hW.get (by simp) c0; have z1 := hW.get (by simp) c1; go_simp; with_reducible rfl)); simp only [Act.put, List.setIfInBounds_toArray, List.set_cons_zero, List.set_cons_succ]) | (refine SeqC.skip rfl (by rfl) ?_; simp only [Act.put, List.setIfInBounds_toArray, List.set_cons_zero, List.set_cons_succ]))
              refine SeqC.done ?_
              clear c0 c1
              go_wp2
              go_roundg (L.length - (i + 1))
              case measure => omega
              case rel => exact ⟨i + 1, by simp, by omega, rfl, HBX.out.drew⟩
          · obtain rfl : i = L.length := by omega
            have HM0 := Lib.hid (show decide (xe ∈ ts.take 0) = false by simp)
            go_wp2
            go_loopg [11, 12] ts.length (fun g s11 s12 wy => ∃ i : Nat, s12 = .int .i64 i ∧ i ≤ ts.length ∧ g = ts.length - i ∧ s11 = .bool (decide (xe ∈ ts.take i)) ∧ Below w4.heap.size w4 wy)
            case atStart => exact ⟨0, rfl, Nat.zero_le _, rfl, by rw [HM0.out], HBX.out⟩
            case round =>
              clear HBX c1 h0I hi hig
              obtain ⟨i, rfl, hi, rfl, rfl, hbx⟩ := hrel
              obtain ⟨wx, rfl⟩ : ∃ wx : World, wx = wr := ⟨_, rfl⟩
              have HBX := Lib.hid hbx
              have h0I : (0 : Int) ≤ (i : Int) := Int.natCast_nonneg _
              obtain ⟨gl', ol', eL, _, hrk⟩ := RowsAt.get HRL.out hbx HX.out
              cases eL
              have c1 : wx.cell? ⟨gl, ol + k * 6 + 5, none⟩ = some (.int .i64 xe) := by
                obtain ⟨b, hb, st, hs, xa, xc, xd, xf, xu, _, _, hxe, _, _⟩ := ln_open HF.out HLN.out
                have := hrk 5 (.int .i64 xf) (by rw [hxe]; rfl)
                have e5 := H5.out
                rw [hxe] at e5
                have e5 : xf = xe := e5
                rw [e5] at this
                exact this
              clear hrk hbx
              rcases Nat.lt_or_ge i ts.length with hil | hig
              · have hiI : (i : Int) < (ts.length : Int) := by omega
                obtain ⟨z, hz⟩ : ∃ z, ts[i]? = some z := ⟨_, List.getElem?_eq_getElem hil⟩
                obtain ⟨gt, ot, eT, _, hri⟩ := RowsAt.get HRT.out HBX.out (i := i) (el := [.int .i64 z]) (by rw [List.getElem?_map, hz]; rfl)
                subst eT
                have c0 := hri 0 _ rfl
                simp only [Nat.mul_one, Nat.add_zero] at c0
                have HMN := Lib.hid (mem_next (j := xe) hz)
                clear hri hz
                generalize hma : decide (xe ∈ ts.take i) = ma at *
                have HMA := Lib.hid hma
                clear hma
                cases ma with
                | true =>
                  go_upto_region 25 with fail
                  refine region_cells [⟨gt, ot + i, none⟩, ⟨gl, ol + k * 6 + 5, none⟩] [(0, true), (1, true), (2, true), (3, true), (4, true), (5, true), (6, true), (7, true), (8, true), (9, true), (10, true), (11, true), (12, true), (13, true)] (by kernel_rfl) (by kernel_rfl) (by decide) (by kernel_rfl) (fun _ _ _ _ _ h => h) ?_
                  have c0 : wx.drew.cell? ⟨gt, ot + i, none⟩ = _ := c0
                  have c1 : wx.drew.cell? ⟨gl, ol + k * 6 + 5, none⟩ = _ := c1
                  repeat (first | (refine SeqC.take (v := ?_) rfl (by rfl) (fun W hW => ?_) ?_; rotate_left; (focus (have z0 := hW.get (by simp) c0; have z1 := hW.get (by simp) c1; go_simp; with_reducible rfl)); simp only [Act.put, List.setIfInBounds_toArray, List.set_cons_zero, List.set_cons_succ]) | (refine SeqC.skip rfl (by rfl) ?_; simp only [Act.put, List.setIfInBounds_toArray, List.set_cons_zero, List.set_cons_succ]))
                  refine SeqC.done ?_
                  clear c0 c1
                  go_wp2
                  go_roundg (ts.length - (i + 1))
                  case measure => omega
                  case rel => exact ⟨i + 1, by simp, by omega, rfl, by rw [HMN.out, Bool.true_or], HBX.out.drew⟩
                | false =>
                  cases hzj : (z == xe) with
                  | true =>
                    have HZ := Lib.hid hzj
                    go_upto_region 25 with fail
                    refine region_cells [⟨gt, ot + i, none⟩, ⟨gl, ol + k * 6 + 5, none⟩] [(0, true), (1, true), (2, true), (3, true), (4, true), (5, true), (6, true), (7, true), (8, true), (9, true), (10, true), (11, true), (12, true), (13, true)] (by kernel_rfl) (by kernel_rfl) (by decide) (by kernel_rfl) (fun _ _ _ _ _ h => h) ?_
                    have c0 : wx.drew.cell? ⟨gt, ot + i, none⟩ = _ := c0
                    have c1 : wx.drew.cell? ⟨gl, ol + k * 6 + 5, none⟩ = _ := c1
                    repeat (first | (refine SeqC.take (v := ?_) rfl (by rfl) (fun W hW => ?_) ?_; rotate_left; (focus (have z0 := hW.get (by simp) c0; have z1 := hW.get (by simp) c1; go_simp; with_reducible rfl)); simp only [Act.put, List.setIfInBounds_toArray, List.set_cons_zero, List.set_cons_succ]) | (refine SeqC.skip rfl (by rfl) ?_; simp only [Act.put, List.setIfInBounds_toArray, List.set_cons_zero, List.set_cons_succ]))
                    refine SeqC.done ?_
                    clear c0 c1
                    go_wp2
                    go_roundg (ts.length - (i + 1))
                    case measure => omega
                    case rel => exact ⟨i + 1, by simp, by omega, rfl, by rw [HMN.out, HZ.out, Bool.false_or], HBX.out.drew⟩
                  | false =>
                    have HZ := Lib.hid hzj
                    go_upto_region 25 with fail
                    refine region_cells [⟨gt, ot + i, none⟩, ⟨gl, ol + k * 6 + 5, none⟩] [(0, true), (1, true), (2, true), (3, true), (4, true), (5, true), (6, true), (7, true), (8, true), (9, true), (10, true), (11, true), (12, true), (13, true)] (by kernel_rfl) (by kernel_rfl) (by decide) (by kernel_rfl) (fun _ _ _ _ _ h => h) ?_
                    have c0 : wx.drew.cell? ⟨gt, ot + i, none⟩ = _ := c0
                    have c1 : wx.drew.cell? ⟨gl, ol + k * 6 + 5, none⟩ = _ := c1
                    repeat (first | (refine SeqC.take (v := ?_) rfl (by rfl) (fun W hW => ?_) ?_; rotate_left; (focus (have z0 := hW.get (by simp) c0; have z1 := hW.get (by simp) c1; go_simp; with_reducible rfl)); simp only [Act.put, List.setIfInBounds_toArray, List.set_cons_zero, List.set_cons_succ]) | (refine SeqC.skip rfl (by rfl) ?_; simp only [Act.put, List.setIfInBounds_toArray, List.set_cons_zero, List.set_cons_succ]))
                    refine SeqC.done ?_
                    clear c0 c1
                    go_wp2
                    go_roundg (ts.length - (i + 1))
                    case measure => omega
                    case rel => exact ⟨i + 1, by simp, by omega, rfl, by rw [HMN.out, HZ.out, Bool.false_or], HBX.out.drew⟩
              · obtain rfl : i = ts.length := by omega
                have hall : decide (xe ∈ ts.take ts.length) = true := by rw [List.take_length]; exact decide_eq_true HM.out
                rw [hall]
                clear hall
                go_wp2
                go_roundg (L.length - (k + 1))
                case measure => omega
                case rel => exact ⟨k + 1, by simp, by omega, rfl, by rw [HN1.out], HBX.out⟩
      · have hd3 : (xd != 3) = true := by simpa using hd
        have HN1 := Lib.hid (show fnd L (k + 1) = fnd L k by rw [HNX.out, HBO.out, decide_eq_false hd]; show _ + (0 : Int) = _; omega)
        go_wp2
        go_roundg (L.length - (k + 1))
        case measure => omega
        case rel => exact ⟨k + 1, by simp, by omega, rfl, by rw [HN1.out], HBel.out⟩
    · obtain rfl : k = L.length := by omega
      have hend : fnd L L.length = (ts.length : Int) := by
        have := HCN.out
        unfold fnd
        rw [List.take_length]
        exact this
      rw [hend]
      clear f0 f1 f2 hend
      go_wp2
      go_ret
      exact ⟨rfl, HB04.out.trans (hbel.mono HB04.out.size)⟩
theorem two_walk {w : World} {v : Value} {D : FnD} (h : FnOk' w v D) : Calls Tryz.prog 7 #[v] w (Yes w) := by
  cases hf : fitF D with
  | true => exact two_main h hf
  | false => exact two_not h hf
end Go.Proofs.YthdcahkedlijpaaGreat.ltwo
