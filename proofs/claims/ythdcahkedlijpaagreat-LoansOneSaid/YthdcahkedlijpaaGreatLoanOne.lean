/- LoansOne: the law answers true for every function. -/
import Derived.Test.YthdcahkedlijpaaGreatLoanF
import Derived.Test.YthdcahkedlijpaaGreatAlive21
namespace Go.Proofs.YthdcahkedlijpaaGreat.loan
open Go.RowKit Go.Proofs.YthdcahkedlijpaaGreat Go.Proofs.YthdcahkedlijpaaGreat.Am
set_option linter.unusedVariables false
def Yes (w : World) (e : Ending) (w' : World) : Prop := e = .returned (.bool true) ∧ Below w.heap.size w w'
theorem local_c (w : World) (n : Int) : Calls Tryz.prog 20 #[.int .i64 n] w (Ans1 w (.agg #[.int .i64 n, .bool false, .int .u8 0])) := by
  go_enter Tryz.func20, Tryz.ntmps20
  go_wp2
  refine bodyPost_ret (results_cell_row rfl _ _ w.heap.size _ #[Value.int .i64 n, .bool false, .int .u8 0] (0, 0) _ rfl (heap_alloc_new w _) Tryz.underlying45 rfl (by kernel_rfl)) rfl ?_
  exact ⟨rfl, (Below.refl _ _).alloc (Nat.le_refl _) _⟩
theorem stV_form {w : World} {v : Value} {D : FnD} (h : FnOk' w v D) (n : Nat) : ∃ (el : List Value) (is : Bool), stV D.bs n = .tuple #[.agg el.toArray, .bool is] ∧ All2 Kd.ok kS26 el ∧ (is = true → stN D.bs n = some el) ∧ (is = false → stN D.bs n = none) := by
  unfold stV
  cases hs : stN D.bs n with
  | none =>
    refine ⟨zeroS, false, rfl, ?_, fun h => (by cases h), fun _ => rfl⟩
    have u : Kd.ok (.i .u8) (.int .u8 0) := ⟨0, rfl, by decide, by decide⟩
    have z : Kd.ok (.i .i64) (.int .i64 0) := ⟨0, rfl, by decide, by decide⟩
    have b : Kd.ok .b (.bool false) := ⟨false, rfl⟩
    exact ⟨u, z, b, u, u, u, u, u, z, z, b, u, u, z, z, b, u, z, b, u, u, z, z, b, u, z, trivial⟩
  | some el =>
    refine ⟨el, true, rfl, ?_, fun _ => rfl, fun h => (by cases h)⟩
    unfold stN at hs
    cases hp : (ptsTo D.bs D.bs.length)[n]? with
    | none => rw [hp] at hs; cases hs
    | some p =>
      rw [hp] at hs
      have hs : (D.bs.getD p.1 b0).st[p.2]? = some el := hs
      rcases blk_ok h p.1 with k | k
      · exact BlkOk.skd (b := D.bs.getD p.1 b0) k el (List.mem_of_getElem? hs)
      · have k : D.bs.getD p.1 b0 = b0 := k
        rw [k] at hs
        have : b0.st = [] := rfl
        rw [this] at hs
        simp at hs
theorem st_mem {D : FnD} {n : Nat} {el : List Value} (h : stN D.bs n = some el) : ∃ b ∈ D.bs, el ∈ b.st := by
  unfold stN at h
  cases hp : (ptsTo D.bs D.bs.length)[n]? with
  | none => rw [hp] at h; cases h
  | some p =>
    rw [hp] at h
    have hs : (D.bs.getD p.1 b0).st[p.2]? = some el := h
    rcases get_or (l := D.bs) (i := p.1) (d := b0) with k | k
    · exact ⟨_, k, List.mem_of_getElem? hs⟩
    · have k : D.bs.getD p.1 b0 = b0 := k
      rw [k] at hs
      have : b0.st = [] := rfl
      rw [this] at hs
      simp at hs
theorem st_ok {D : FnD} (hc : check.chkF D = 0) {n : Nat} {el : List Value} (h : stN D.bs n = some el) : okStE.val el = true := by
  obtain ⟨b, hb, he⟩ := st_mem h
  have := check.okB_of (size.of_chk hc).2.1 b hb
  unfold made.okB at this
  rw [Bool.and_eq_true] at this
  exact List.all_eq_true.1 this.1 el he
set_option maxRecDepth 100000 in
set_option maxHeartbeats 4000000 in
theorem one_not {w : World} {v : Value} {D : FnD} (h : FnOk' w v D) (hf : fitF D = false) : Calls Tryz.prog 5 #[v] w (Yes w) := by
  have hT := fun w1 (hb : Below w.heap.size w w1) => fit_c (h.frz hb.block)
  rw [h.eq, hf] at hT
  rw [h.eq]
  have HT := Lib.hid hT
  clear hT h hf
  have B0 : Box (w.alloc (.cells #[.int .i64 D.p, .bool D.u, D.lv, D.bv] tF)) w.heap.size tF (.int .i64 D.p) (.bool D.u) D.lv D.bv := Box.mk rfl
  have b0 : Below w.heap.size w (w.alloc (.cells #[.int .i64 D.p, .bool D.u, D.lv, D.bv] tF)) := (Below.refl _ _).alloc (Nat.le_refl _) _
  go_enter Tryz.func5, Tryz.ntmps5
  go_wp2_with (first | (go_at_call 22; refine (alive21 _).mono ?_; rintro e w1 ⟨rfl, b1⟩; obtain ⟨y0, y1, y2, y3⟩ := (B0.below b1).cells) | (go_at_call 23; refine (HT.out _ (b0.trans (b1.mono b0.size))).mono ?_; rintro e w2 ⟨rfl, b2⟩))
  go_ret
  have b01 := b0.trans (b1.mono b0.size)
  exact ⟨rfl, b01.trans (b2.mono b01.size)⟩
set_option maxRecDepth 100000 in
set_option maxHeartbeats 16000000 in
theorem one_main {w : World} {v : Value} {D : FnD} (h : FnOk' w v D) (hf : fitF D = true) : Calls Tryz.prog 5 #[v] w (Yes w) := by
  have hc := fit_chk hf
  have hsm := small_of hc
  have hT := fun w1 (hb : Below w.heap.size w w1) => fit_c (h.frz hb.block)
  have hA := fun w1 (hb : Below w.heap.size w w1) => lall_c (h.frz hb.block) hsm (hc ▸ chk_is (h.frz hb.block))
  have hS := fun w1 (hb : Below w.heap.size w w1) => size_c (h.frz hb.block) hsm
  have hM := fun n (hn : n < sizeN D) w1 (hb : Below w.heap.size w w1) => stmt_c (h.frz hb.block) hsm hn
  have HF := Lib.hid h
  rw [h.eq, hf] at hT
  rw [h.eq] at hA hS hM ⊢
  have HT := Lib.hid hT
  have HA := Lib.hid hA
  have HS := Lib.hid hS
  have HM := Lib.hid hM
  have HC := Lib.hid hc
  have hN6 : sizeN D ≤ 600 := hsm.start (Nat.le_refl _)
  have hN6I : (sizeN D : Int) ≤ 600 := by omega
  clear hT hA hS hM h hf hc hsm
  have B0 : Box (w.alloc (.cells #[.int .i64 D.p, .bool D.u, D.lv, D.bv] tF)) w.heap.size tF (.int .i64 D.p) (.bool D.u) D.lv D.bv := Box.mk rfl
  have b0 : Below w.heap.size w (w.alloc (.cells #[.int .i64 D.p, .bool D.u, D.lv, D.bv] tF)) := (Below.refl _ _).alloc (Nat.le_refl _) _
  go_enter Tryz.func5, Tryz.ntmps5
  go_upto_region 8 with (first | (go_at_call 22; refine (alive21 _).mono ?_; rintro e w1 ⟨rfl, b1⟩; have B1 := B0.below b1; have b01 := b0.trans (b1.mono b0.size); obtain ⟨y0, y1, y2, y3⟩ := B1.cells) | (go_at_call 23; refine (HT.out _ b01).mono ?_; rintro e w2 ⟨rfl, b2⟩; have B2 := B1.below b2; have b02 := b01.trans (b2.mono b01.size); obtain ⟨z0, z1, z2, z3⟩ := B2.cells) | (go_at_call 11; refine (HA.out _ b02).mono ?_; rintro e w3 ⟨s, rfl, hnl⟩))
  have b3 := hnl.2
  have b03 := b02.trans (b3.mono b02.size)
  obtain ⟨Al, cl, rfl, hrl⟩ := hnl.read (by decide) (fun x hx => lns_6 hx)
  have HB3 := Lib.hid (B2.below b3)
  have HRL := Lib.hid hrl
  have HB03 := Lib.hid b03
  clear hnl hrl B0 b0 b1 B1 b01 y0 y1 y2 y3 b2 B2 b02 z0 z1 z2 z3 b3 b03 HT HA
  have hs3 := HB03.out.size
  go_wp2
  go_loopg [6, 7] (sizeN D) (fun g s6 s7 wr => ∃ n : Nat, s7 = .int .i64 n ∧ n ≤ sizeN D ∧ g = sizeN D - n ∧ s6 = .int .i64 ((lns D.bs n).length : Nat) ∧ Below w3.heap.size w3 wr)
  case atStart => exact ⟨0, rfl, Nat.zero_le _, rfl, rfl, Below.refl _ _⟩
  case round =>
    obtain ⟨n, rfl, hn, rfl, rfl, hbel⟩ := hrel
    obtain ⟨t0, t1, t2, t3⟩ := (HB3.out.below hbel).cells
    have hbw := HB03.out.trans (hbel.mono hs3)
    have h0N : (0 : Int) ≤ (n : Int) := Int.natCast_nonneg _
    have hll := lns_len (bs := D.bs) n
    have HBel := Lib.hid hbel
    have HBW := Lib.hid hbw
    clear hbel hbw
    rcases Nat.lt_or_ge n (sizeN D) with hltn | hge
    · have hltI : (n : Int) < (sizeN D : Int) := by omega
      obtain ⟨el, is, hsv, hkk, his, hno⟩ := stV_form HF.out n
      have hM := fun w1 hb => HM.out n hltn w1 hb
      rw [hsv] at hM
      have HMn := Lib.hid hM
      clear hM hsv
      have h26 : el.length = 26 := hkk.len.symm
      have h1s := stm_ones hkk
      have HKK := Lib.hid hkk
      have HIS := Lib.hid his
      have HNO := Lib.hid hno
      have H1S := Lib.hid h1s
      have H26 := Lib.hid h26
      clear hkk his hno h1s h26
      go_upto_region 12 with (first | (go_at_call 24; refine (HS.out _ HBW.out).mono ?_; rintro e w4 ⟨rfl, b4⟩; obtain ⟨u0, u1, u2, u3⟩ := ((HB3.out.below HBel.out).below b4).cells) | (go_at_call 25; refine (HMn.out _ (HBW.out.trans (b4.mono HBW.out.size))).mono ?_; rintro e w5 ⟨rfl, b5⟩; have hsto : (storeCells ⟨w5.heap.size, 0, none⟩ el).run Tryz.prog (w5.alloc (.cells #[.int .u8 0, .int .i64 0, .bool false, .int .u8 0, .int .u8 0, .int .u8 0, .int .u8 0, .int .u8 0, .int .i64 0, .int .i64 0, .bool false, .int .u8 0, .int .u8 0, .int .i64 0, .int .i64 0, .bool false, .int .u8 0, .int .i64 0, .bool false, .int .u8 0, .int .u8 0, .int .i64 0, .int .i64 0, .bool false, .int .u8 0, .int .i64 0] 51)) = .ok () (w5.alloc (.cells el.toArray 51)) := run_store_fresh rfl (by rw [H26.out]; rfl) H1S.out))
      have h34 := HBel.out.trans (b4.mono HBel.out.size)
      have h35 := h34.trans (b5.mono h34.size)
      generalize hwa : w5.alloc (.cells el.toArray 51) = wa
      have b5a : Below w5.heap.size w5 wa := by rw [← hwa]; exact (Below.refl _ _).alloc (Nat.le_refl _) _
      have hb3a := h35.trans (b5a.mono h35.size)
      have hce : ∀ f u, el[f]? = some u → wa.cell? ⟨w5.heap.size, f, none⟩ = some u := fun f u hu => by
        rw [← hwa, cell_of_row _ w5.heap.size f _ tS (0, 0) (at_alloc rfl)]
        simpa using hu
      have hg8a : w5.heap.size < wa.heap.size := by rw [← hwa]; simp
      have HB5 := Lib.hid hb3a
      clear hwa hsto b5a h35 h34 b4 b5 u0 u1 u2 u3 t0 t1 t2 t3
      generalize hg8 : w5.heap.size = g8 at *
      clear hg8
      obtain ⟨x0, x1, x3, x4, x6, x17, x19, d2, d18, v5, v7, v8, v9, v10, v11, v12, v13, v14, v15, v16, v20, v21, v22, v23, v24, v25, hel, hone⟩ := stm_open HKK.out
      have e0 := hce 0 (.int .u8 x0) (by rw [hel]; rfl)
      have e1 := hce 1 (.int .i64 x1) (by rw [hel]; rfl)
      have e2 := hce 2 (.bool d2) (by rw [hel]; rfl)
      have e3 := hce 3 (.int .u8 x3) (by rw [hel]; rfl)
      have e4 := hce 4 (.int .u8 x4) (by rw [hel]; rfl)
      have e6 := hce 6 (.int .u8 x6) (by rw [hel]; rfl)
      have e17 := hce 17 (.int .i64 x17) (by rw [hel]; rfl)
      have e18 := hce 18 (.bool d18) (by rw [hel]; rfl)
      have e19 := hce 19 (.int .u8 x19) (by rw [hel]; rfl)
      have HEL := Lib.hid hel
      clear hce hel hone
      cases is with
      | false =>
        have HLN := Lib.hid (lns_none (ln_none (HNO.out rfl)))
        clear hb3a
        go_wp2
        go_roundg (sizeN D - (n + 1))
        case measure => omega
        case rel => exact ⟨n + 1, by simp, by omega, rfl, by rw [HLN.out], HB5.out⟩
      | true =>
        have HS2 := Lib.hid (HIS.out rfl)
        by_cases h0 : x0 = 1
        · by_cases h4 : x4 = 4
          · subst h0 h4
            have hx1 : 0 ≤ x1 := by
              have := (st_range HKK.out (st_ok HC.out HS2.out) (c := 1) (by simp)).1
              rw [HEL.out] at this
              exact this
            have hx1n : (x1 == -1) = false := by simp; omega
            cases d2 with
            | true =>
              have hln : lnN D.bs n = some [.int .i64 (n : Nat), .int .i64 x17, .bool d18, .int .u8 x19, .int .u8 x6, .int .i64 (-1)] := by
                rw [ln_some HS2.out (by rw [HEL.out]; rfl), HEL.out]
                rfl
              have hget := lns_get hln hltn
              have hmlt := (List.getElem?_eq_some_iff.1 hget).1
              have hmI : ((lns D.bs n).length : Int) < ((lns D.bs (sizeN D)).length : Int) := by omega
              have hmI2 : ¬ ((lns D.bs n).length : Int) ≥ ((lns D.bs (sizeN D)).length : Int) := by omega
              have h0M : (0 : Int) ≤ ((lns D.bs n).length : Int) := Int.natCast_nonneg _
              obtain ⟨gl, ol, eL, hgl, hrl⟩ := RowsAt.get HRL.out hb3a hget
              subst eL
              have r0 := hrl 0 _ rfl
              have r1 := hrl 1 _ rfl
              have r2 := hrl 2 _ rfl
              have r3 := hrl 3 _ rfl
              have r4 := hrl 4 _ rfl
              have r5 := hrl 5 _ rfl
              simp only [Nat.add_zero] at r0
              have HLS := Lib.hid (lns_some hln)
              have hlN := lns_len (bs := D.bs) (sizeN D)
              clear hln hget hrl
              go_upto_region 17 with fail
              have hsa := wa.heap.size
              generalize hwc : wa.alloc (.cells #[.int .i64 (n : Nat), .int .i64 x17, .bool d18, .int .u8 x19, .int .u8 x6, .int .i64 (-1)] 63) = wc
              have bac : Below wa.heap.size wa wc := by rw [← hwc]; exact (Below.refl _ _).alloc (Nat.le_refl _) _
              have b3c := hb3a.trans (bac.mono hb3a.size)
              have sc : wc.heap.size = wa.heap.size + 1 := by rw [← hwc]; simp
              have e1 : wc.drew.cell? ⟨g8, 1, none⟩ = _ := (bac.cell (p := ⟨g8, 1, none⟩) hg8a).trans e1
              have e2 : wc.drew.cell? ⟨g8, 2, none⟩ = _ := (bac.cell (p := ⟨g8, 2, none⟩) hg8a).trans e2
              have e3 : wc.drew.cell? ⟨g8, 3, none⟩ = _ := (bac.cell (p := ⟨g8, 3, none⟩) hg8a).trans e3
              have e6 : wc.drew.cell? ⟨g8, 6, none⟩ = _ := (bac.cell (p := ⟨g8, 6, none⟩) hg8a).trans e6
              have e17 : wc.drew.cell? ⟨g8, 17, none⟩ = _ := (bac.cell (p := ⟨g8, 17, none⟩) hg8a).trans e17
              have e18 : wc.drew.cell? ⟨g8, 18, none⟩ = _ := (bac.cell (p := ⟨g8, 18, none⟩) hg8a).trans e18
              have e19 : wc.drew.cell? ⟨g8, 19, none⟩ = _ := (bac.cell (p := ⟨g8, 19, none⟩) hg8a).trans e19
              have f0 : wc.drew.cell? ⟨wa.heap.size, 0, none⟩ = some (.int .i64 (n : Nat)) := by rw [← hwc]; exact cell_of_row _ wa.heap.size 0 _ tLn (0, 0) (at_alloc (w := wa) rfl)
              have f1 : wc.drew.cell? ⟨wa.heap.size, 1, none⟩ = some (.int .i64 x17) := by rw [← hwc]; exact cell_of_row _ wa.heap.size 1 _ tLn (0, 0) (at_alloc (w := wa) rfl)
              have f2 : wc.drew.cell? ⟨wa.heap.size, 2, none⟩ = some (.bool d18) := by rw [← hwc]; exact cell_of_row _ wa.heap.size 2 _ tLn (0, 0) (at_alloc (w := wa) rfl)
              have f3 : wc.drew.cell? ⟨wa.heap.size, 3, none⟩ = some (.int .u8 x19) := by rw [← hwc]; exact cell_of_row _ wa.heap.size 3 _ tLn (0, 0) (at_alloc (w := wa) rfl)
              have f4 : wc.drew.cell? ⟨wa.heap.size, 4, none⟩ = some (.int .u8 x6) := by rw [← hwc]; exact cell_of_row _ wa.heap.size 4 _ tLn (0, 0) (at_alloc (w := wa) rfl)
              have f5 : wc.drew.cell? ⟨wa.heap.size, 5, none⟩ = some (.int .i64 (-1)) := by rw [← hwc]; exact cell_of_row _ wa.heap.size 5 _ tLn (0, 0) (at_alloc (w := wa) rfl)
              generalize hg9 : wa.heap.size = g9 at *
              have hg8 : g8 < g9 := by omega
              clear hwc bac r0 r1 r2 r3 r4 r5 e0 e4
              refine region_cells [⟨g8, 1, none⟩, ⟨g8, 2, none⟩, ⟨g8, 3, none⟩, ⟨g8, 6, none⟩, ⟨g8, 17, none⟩, ⟨g8, 18, none⟩, ⟨g8, 19, none⟩, ⟨g9, 0, none⟩, ⟨g9, 1, none⟩, ⟨g9, 2, none⟩, ⟨g9, 3, none⟩, ⟨g9, 4, none⟩, ⟨g9, 5, none⟩] [(0, true), (1, true), (2, true), (3, true), (4, true), (5, true), (6, true), (7, true), (8, true), (9, true), (10, true), (11, true), (12, true), (13, true), (14, true), (15, true), (16, true), (17, true), (18, true), (19, true), (20, true), (21, true), (22, true), (23, true), (24, true), (25, true), (26, true), (27, true), (28, true), (29, false), (30, true), (31, true), (32, true), (33, true), (34, true), (35, true), (36, true), (37, true), (38, true), (39, true), (40, true), (41, true), (42, true), (43, true), (44, true), (45, true)] (by kernel_rfl) (by kernel_rfl) (by decide) (by kernel_rfl) (fun _ _ _ _ _ h => h) ?_
              generalize hwd : wc.drew = wd at *
              have b3d : Below w3.heap.size w3 wd := by rw [← hwd]; exact b3c.drew
              have sd : wd.heap.size = g9 + 1 := by rw [← hwd]; exact sc
              clear hwd b3c sc
              repeat (first | (refine SeqC.take (v := ?_) rfl (by rfl) (fun W hW => ?_) ?_; rotate_left; (focus (have ze1 := hW.get (by simp) e1; have ze2 := hW.get (by simp) e2; have ze3 := hW.get (by simp) e3; have ze6 := hW.get (by simp) e6; have ze17 := hW.get (by simp) e17; have ze18 := hW.get (by simp) e18; have ze19 := hW.get (by simp) e19; have zf0 := hW.get (by simp) f0; have zf1 := hW.get (by simp) f1; have zf2 := hW.get (by simp) f2; have zf3 := hW.get (by simp) f3; have zf4 := hW.get (by simp) f4; have zf5 := hW.get (by simp) f5; go_simp; with_reducible rfl)); simp only [Act.put, List.setIfInBounds_toArray, List.set_cons_zero, List.set_cons_succ]) | (refine SeqC.skip rfl (by rfl) ?_; simp only [Act.put, List.setIfInBounds_toArray, List.set_cons_zero, List.set_cons_succ]))
              refine SeqC.call (f := ?_) (args := ?_) rfl (by rfl) ?_ ?_
              rotate_left 2
              · (go_simp; first | with_reducible rfl | (refine ⟨?_, ?_⟩ <;> with_reducible rfl))
              refine (local_c _ _).mono ?_
              rintro e we ⟨rfl, be⟩
              refine ⟨_, rfl, Cells.of_ext be (by intro p hp; simp only [List.mem_cons, List.not_mem_nil, or_false] at hp; rcases hp with rfl | rfl | rfl | rfl | rfl | rfl | rfl | rfl | rfl | rfl | rfl | rfl | rfl <;> (first | (show g8 < wd.heap.size; omega) | (show g9 < wd.heap.size; omega))), ?_⟩
              simp only [Act.put, List.setIfInBounds_toArray, List.set_cons_zero, List.set_cons_succ]
              have e1 : we.cell? ⟨g8, 1, none⟩ = _ := (be.cell (p := ⟨g8, 1, none⟩) (by first | (show g8 < wd.heap.size; omega) | (show g9 < wd.heap.size; omega))).trans e1
              have e2 : we.cell? ⟨g8, 2, none⟩ = _ := (be.cell (p := ⟨g8, 2, none⟩) (by first | (show g8 < wd.heap.size; omega) | (show g9 < wd.heap.size; omega))).trans e2
              have e3 : we.cell? ⟨g8, 3, none⟩ = _ := (be.cell (p := ⟨g8, 3, none⟩) (by first | (show g8 < wd.heap.size; omega) | (show g9 < wd.heap.size; omega))).trans e3
              have e6 : we.cell? ⟨g8, 6, none⟩ = _ := (be.cell (p := ⟨g8, 6, none⟩) (by first | (show g8 < wd.heap.size; omega) | (show g9 < wd.heap.size; omega))).trans e6
              have e17 : we.cell? ⟨g8, 17, none⟩ = _ := (be.cell (p := ⟨g8, 17, none⟩) (by first | (show g8 < wd.heap.size; omega) | (show g9 < wd.heap.size; omega))).trans e17
              have e18 : we.cell? ⟨g8, 18, none⟩ = _ := (be.cell (p := ⟨g8, 18, none⟩) (by first | (show g8 < wd.heap.size; omega) | (show g9 < wd.heap.size; omega))).trans e18
              have e19 : we.cell? ⟨g8, 19, none⟩ = _ := (be.cell (p := ⟨g8, 19, none⟩) (by first | (show g8 < wd.heap.size; omega) | (show g9 < wd.heap.size; omega))).trans e19
              have f0 : we.cell? ⟨g9, 0, none⟩ = _ := (be.cell (p := ⟨g9, 0, none⟩) (by first | (show g8 < wd.heap.size; omega) | (show g9 < wd.heap.size; omega))).trans f0
              have f1 : we.cell? ⟨g9, 1, none⟩ = _ := (be.cell (p := ⟨g9, 1, none⟩) (by first | (show g8 < wd.heap.size; omega) | (show g9 < wd.heap.size; omega))).trans f1
              have f2 : we.cell? ⟨g9, 2, none⟩ = _ := (be.cell (p := ⟨g9, 2, none⟩) (by first | (show g8 < wd.heap.size; omega) | (show g9 < wd.heap.size; omega))).trans f2
              have f3 : we.cell? ⟨g9, 3, none⟩ = _ := (be.cell (p := ⟨g9, 3, none⟩) (by first | (show g8 < wd.heap.size; omega) | (show g9 < wd.heap.size; omega))).trans f3
              have f4 : we.cell? ⟨g9, 4, none⟩ = _ := (be.cell (p := ⟨g9, 4, none⟩) (by first | (show g8 < wd.heap.size; omega) | (show g9 < wd.heap.size; omega))).trans f4
              have f5 : we.cell? ⟨g9, 5, none⟩ = _ := (be.cell (p := ⟨g9, 5, none⟩) (by first | (show g8 < wd.heap.size; omega) | (show g9 < wd.heap.size; omega))).trans f5
              repeat (first | (refine SeqC.take (v := ?_) rfl (by rfl) (fun W hW => ?_) ?_; rotate_left; (focus (have ze1 := hW.get (by simp) e1; have ze2 := hW.get (by simp) e2; have ze3 := hW.get (by simp) e3; have ze6 := hW.get (by simp) e6; have ze17 := hW.get (by simp) e17; have ze18 := hW.get (by simp) e18; have ze19 := hW.get (by simp) e19; have zf0 := hW.get (by simp) f0; have zf1 := hW.get (by simp) f1; have zf2 := hW.get (by simp) f2; have zf3 := hW.get (by simp) f3; have zf4 := hW.get (by simp) f4; have zf5 := hW.get (by simp) f5; go_simp; with_reducible rfl)); simp only [Act.put, List.setIfInBounds_toArray, List.set_cons_zero, List.set_cons_succ]) | (refine SeqC.skip rfl (by rfl) ?_; simp only [Act.put, List.setIfInBounds_toArray, List.set_cons_zero, List.set_cons_succ]))
              refine SeqC.done ?_
              have b3e := b3d.trans (be.mono b3d.size)
              clear e1 e2 e3 e6 e17 e18 e19 f0 f1 f2 f3 f4 f5
              go_wp2
              go_roundg (sizeN D - (n + 1))
              case measure => omega
              case rel => exact ⟨n + 1, by simp, by omega, rfl, by rw [HLS.out, List.length_append]; simp, b3e⟩
            | false =>
              by_cases h3 : x3 = 0
              · subst h3
                have hln : lnN D.bs n = some [.int .i64 (n : Nat), .int .i64 x17, .bool d18, .int .u8 x19, .int .u8 x6, .int .i64 x1] := by
                  rw [ln_some HS2.out (by rw [HEL.out]; rfl), HEL.out]
                  rfl
                have hget := lns_get hln hltn
                have hmlt := (List.getElem?_eq_some_iff.1 hget).1
                have hmI : ((lns D.bs n).length : Int) < ((lns D.bs (sizeN D)).length : Int) := by omega
                have hmI2 : ¬ ((lns D.bs n).length : Int) ≥ ((lns D.bs (sizeN D)).length : Int) := by omega
                have h0M : (0 : Int) ≤ ((lns D.bs n).length : Int) := Int.natCast_nonneg _
                obtain ⟨gl, ol, eL, hgl, hrl⟩ := RowsAt.get HRL.out hb3a hget
                subst eL
                have r0 := hrl 0 _ rfl
                have r1 := hrl 1 _ rfl
                have r2 := hrl 2 _ rfl
                have r3 := hrl 3 _ rfl
                have r4 := hrl 4 _ rfl
                have r5 := hrl 5 _ rfl
                simp only [Nat.add_zero] at r0
                have HLS := Lib.hid (lns_some hln)
                have hlN := lns_len (bs := D.bs) (sizeN D)
                clear hln hget hrl
                go_upto_region 17 with fail
                have hsa := wa.heap.size
                generalize hwc : wa.alloc (.cells #[.int .i64 (n : Nat), .int .i64 x17, .bool d18, .int .u8 x19, .int .u8 x6, .int .i64 x1] 63) = wc
                have bac : Below wa.heap.size wa wc := by rw [← hwc]; exact (Below.refl _ _).alloc (Nat.le_refl _) _
                have b3c := hb3a.trans (bac.mono hb3a.size)
                have sc : wc.heap.size = wa.heap.size + 1 := by rw [← hwc]; simp
                have e1 : wc.drew.cell? ⟨g8, 1, none⟩ = _ := (bac.cell (p := ⟨g8, 1, none⟩) hg8a).trans e1
                have e2 : wc.drew.cell? ⟨g8, 2, none⟩ = _ := (bac.cell (p := ⟨g8, 2, none⟩) hg8a).trans e2
                have e3 : wc.drew.cell? ⟨g8, 3, none⟩ = _ := (bac.cell (p := ⟨g8, 3, none⟩) hg8a).trans e3
                have e6 : wc.drew.cell? ⟨g8, 6, none⟩ = _ := (bac.cell (p := ⟨g8, 6, none⟩) hg8a).trans e6
                have e17 : wc.drew.cell? ⟨g8, 17, none⟩ = _ := (bac.cell (p := ⟨g8, 17, none⟩) hg8a).trans e17
                have e18 : wc.drew.cell? ⟨g8, 18, none⟩ = _ := (bac.cell (p := ⟨g8, 18, none⟩) hg8a).trans e18
                have e19 : wc.drew.cell? ⟨g8, 19, none⟩ = _ := (bac.cell (p := ⟨g8, 19, none⟩) hg8a).trans e19
                have f0 : wc.drew.cell? ⟨wa.heap.size, 0, none⟩ = some (.int .i64 (n : Nat)) := by rw [← hwc]; exact cell_of_row _ wa.heap.size 0 _ tLn (0, 0) (at_alloc (w := wa) rfl)
                have f1 : wc.drew.cell? ⟨wa.heap.size, 1, none⟩ = some (.int .i64 x17) := by rw [← hwc]; exact cell_of_row _ wa.heap.size 1 _ tLn (0, 0) (at_alloc (w := wa) rfl)
                have f2 : wc.drew.cell? ⟨wa.heap.size, 2, none⟩ = some (.bool d18) := by rw [← hwc]; exact cell_of_row _ wa.heap.size 2 _ tLn (0, 0) (at_alloc (w := wa) rfl)
                have f3 : wc.drew.cell? ⟨wa.heap.size, 3, none⟩ = some (.int .u8 x19) := by rw [← hwc]; exact cell_of_row _ wa.heap.size 3 _ tLn (0, 0) (at_alloc (w := wa) rfl)
                have f4 : wc.drew.cell? ⟨wa.heap.size, 4, none⟩ = some (.int .u8 x6) := by rw [← hwc]; exact cell_of_row _ wa.heap.size 4 _ tLn (0, 0) (at_alloc (w := wa) rfl)
                have f5 : wc.drew.cell? ⟨wa.heap.size, 5, none⟩ = some (.int .i64 x1) := by rw [← hwc]; exact cell_of_row _ wa.heap.size 5 _ tLn (0, 0) (at_alloc (w := wa) rfl)
                generalize hg9 : wa.heap.size = g9 at *
                have hg8 : g8 < g9 := by omega
                clear hwc bac r0 r1 r2 r3 r4 r5 e0 e4
                refine region_cells [⟨g8, 1, none⟩, ⟨g8, 2, none⟩, ⟨g8, 3, none⟩, ⟨g8, 6, none⟩, ⟨g8, 17, none⟩, ⟨g8, 18, none⟩, ⟨g8, 19, none⟩, ⟨g9, 0, none⟩, ⟨g9, 1, none⟩, ⟨g9, 2, none⟩, ⟨g9, 3, none⟩, ⟨g9, 4, none⟩, ⟨g9, 5, none⟩] [(0, true), (1, true), (2, true), (3, true), (4, true), (5, true), (6, true), (7, true), (8, true), (9, true), (10, true), (11, true), (12, true), (13, true), (14, true), (15, true), (16, true), (17, true), (18, true), (19, true), (20, true), (21, true), (22, true), (23, true), (24, true), (25, true), (26, true), (27, true), (28, true), (29, false), (30, true), (31, true), (32, true), (33, true), (34, true), (35, true), (36, true), (37, true), (38, true), (39, true), (40, true), (41, true), (42, true), (43, true), (44, true), (45, true)] (by kernel_rfl) (by kernel_rfl) (by decide) (by kernel_rfl) (fun _ _ _ _ _ h => h) ?_
                generalize hwd : wc.drew = wd at *
                have b3d : Below w3.heap.size w3 wd := by rw [← hwd]; exact b3c.drew
                have sd : wd.heap.size = g9 + 1 := by rw [← hwd]; exact sc
                clear hwd b3c sc
                repeat (first | (refine SeqC.take (v := ?_) rfl (by rfl) (fun W hW => ?_) ?_; rotate_left; (focus (have ze1 := hW.get (by simp) e1; have ze2 := hW.get (by simp) e2; have ze3 := hW.get (by simp) e3; have ze6 := hW.get (by simp) e6; have ze17 := hW.get (by simp) e17; have ze18 := hW.get (by simp) e18; have ze19 := hW.get (by simp) e19; have zf0 := hW.get (by simp) f0; have zf1 := hW.get (by simp) f1; have zf2 := hW.get (by simp) f2; have zf3 := hW.get (by simp) f3; have zf4 := hW.get (by simp) f4; have zf5 := hW.get (by simp) f5; go_simp; with_reducible rfl)); simp only [Act.put, List.setIfInBounds_toArray, List.set_cons_zero, List.set_cons_succ]) | (refine SeqC.skip rfl (by rfl) ?_; simp only [Act.put, List.setIfInBounds_toArray, List.set_cons_zero, List.set_cons_succ]))
                refine SeqC.call (f := ?_) (args := ?_) rfl (by rfl) ?_ ?_
                rotate_left 2
                · (go_simp; first | with_reducible rfl | (refine ⟨?_, ?_⟩ <;> with_reducible rfl))
                refine (local_c _ _).mono ?_
                rintro e we ⟨rfl, be⟩
                refine ⟨_, rfl, Cells.of_ext be (by intro p hp; simp only [List.mem_cons, List.not_mem_nil, or_false] at hp; rcases hp with rfl | rfl | rfl | rfl | rfl | rfl | rfl | rfl | rfl | rfl | rfl | rfl | rfl <;> (first | (show g8 < wd.heap.size; omega) | (show g9 < wd.heap.size; omega))), ?_⟩
                simp only [Act.put, List.setIfInBounds_toArray, List.set_cons_zero, List.set_cons_succ]
                have e1 : we.cell? ⟨g8, 1, none⟩ = _ := (be.cell (p := ⟨g8, 1, none⟩) (by first | (show g8 < wd.heap.size; omega) | (show g9 < wd.heap.size; omega))).trans e1
                have e2 : we.cell? ⟨g8, 2, none⟩ = _ := (be.cell (p := ⟨g8, 2, none⟩) (by first | (show g8 < wd.heap.size; omega) | (show g9 < wd.heap.size; omega))).trans e2
                have e3 : we.cell? ⟨g8, 3, none⟩ = _ := (be.cell (p := ⟨g8, 3, none⟩) (by first | (show g8 < wd.heap.size; omega) | (show g9 < wd.heap.size; omega))).trans e3
                have e6 : we.cell? ⟨g8, 6, none⟩ = _ := (be.cell (p := ⟨g8, 6, none⟩) (by first | (show g8 < wd.heap.size; omega) | (show g9 < wd.heap.size; omega))).trans e6
                have e17 : we.cell? ⟨g8, 17, none⟩ = _ := (be.cell (p := ⟨g8, 17, none⟩) (by first | (show g8 < wd.heap.size; omega) | (show g9 < wd.heap.size; omega))).trans e17
                have e18 : we.cell? ⟨g8, 18, none⟩ = _ := (be.cell (p := ⟨g8, 18, none⟩) (by first | (show g8 < wd.heap.size; omega) | (show g9 < wd.heap.size; omega))).trans e18
                have e19 : we.cell? ⟨g8, 19, none⟩ = _ := (be.cell (p := ⟨g8, 19, none⟩) (by first | (show g8 < wd.heap.size; omega) | (show g9 < wd.heap.size; omega))).trans e19
                have f0 : we.cell? ⟨g9, 0, none⟩ = _ := (be.cell (p := ⟨g9, 0, none⟩) (by first | (show g8 < wd.heap.size; omega) | (show g9 < wd.heap.size; omega))).trans f0
                have f1 : we.cell? ⟨g9, 1, none⟩ = _ := (be.cell (p := ⟨g9, 1, none⟩) (by first | (show g8 < wd.heap.size; omega) | (show g9 < wd.heap.size; omega))).trans f1
                have f2 : we.cell? ⟨g9, 2, none⟩ = _ := (be.cell (p := ⟨g9, 2, none⟩) (by first | (show g8 < wd.heap.size; omega) | (show g9 < wd.heap.size; omega))).trans f2
                have f3 : we.cell? ⟨g9, 3, none⟩ = _ := (be.cell (p := ⟨g9, 3, none⟩) (by first | (show g8 < wd.heap.size; omega) | (show g9 < wd.heap.size; omega))).trans f3
                have f4 : we.cell? ⟨g9, 4, none⟩ = _ := (be.cell (p := ⟨g9, 4, none⟩) (by first | (show g8 < wd.heap.size; omega) | (show g9 < wd.heap.size; omega))).trans f4
                have f5 : we.cell? ⟨g9, 5, none⟩ = _ := (be.cell (p := ⟨g9, 5, none⟩) (by first | (show g8 < wd.heap.size; omega) | (show g9 < wd.heap.size; omega))).trans f5
                repeat (first | (refine SeqC.take (v := ?_) rfl (by rfl) (fun W hW => ?_) ?_; rotate_left; (focus (have ze1 := hW.get (by simp) e1; have ze2 := hW.get (by simp) e2; have ze3 := hW.get (by simp) e3; have ze6 := hW.get (by simp) e6; have ze17 := hW.get (by simp) e17; have ze18 := hW.get (by simp) e18; have ze19 := hW.get (by simp) e19; have zf0 := hW.get (by simp) f0; have zf1 := hW.get (by simp) f1; have zf2 := hW.get (by simp) f2; have zf3 := hW.get (by simp) f3; have zf4 := hW.get (by simp) f4; have zf5 := hW.get (by simp) f5; go_simp; with_reducible rfl)); simp only [Act.put, List.setIfInBounds_toArray, List.set_cons_zero, List.set_cons_succ]) | (refine SeqC.skip rfl (by rfl) ?_; simp only [Act.put, List.setIfInBounds_toArray, List.set_cons_zero, List.set_cons_succ]))
                refine SeqC.done ?_
                have b3e := b3d.trans (be.mono b3d.size)
                clear e1 e2 e3 e6 e17 e18 e19 f0 f1 f2 f3 f4 f5
                go_wp2
                go_roundg (sizeN D - (n + 1))
                case measure => omega
                case rel => exact ⟨n + 1, by simp, by omega, rfl, by rw [HLS.out, List.length_append]; simp, b3e⟩
              · have n3 : (x3 == 0) = false := by simpa using h3
                have _h3 := h3
                have hln : lnN D.bs n = some [.int .i64 (n : Nat), .int .i64 x17, .bool d18, .int .u8 x19, .int .u8 x6, .int .i64 (-1)] := by
                  rw [ln_some HS2.out (by rw [HEL.out]; rfl), HEL.out]
                  show some [_, _, _, _, _, Value.int .i64 (if (decide ((0 : Int) = 0) && decide (x3 = 0)) = true then x1 else -1)] = _
                  rw [if_neg (by simp [h3])]
                  rfl
                have hget := lns_get hln hltn
                have hmlt := (List.getElem?_eq_some_iff.1 hget).1
                have hmI : ((lns D.bs n).length : Int) < ((lns D.bs (sizeN D)).length : Int) := by omega
                have hmI2 : ¬ ((lns D.bs n).length : Int) ≥ ((lns D.bs (sizeN D)).length : Int) := by omega
                have h0M : (0 : Int) ≤ ((lns D.bs n).length : Int) := Int.natCast_nonneg _
                obtain ⟨gl, ol, eL, hgl, hrl⟩ := RowsAt.get HRL.out hb3a hget
                subst eL
                have r0 := hrl 0 _ rfl
                have r1 := hrl 1 _ rfl
                have r2 := hrl 2 _ rfl
                have r3 := hrl 3 _ rfl
                have r4 := hrl 4 _ rfl
                have r5 := hrl 5 _ rfl
                simp only [Nat.add_zero] at r0
                have HLS := Lib.hid (lns_some hln)
                have hlN := lns_len (bs := D.bs) (sizeN D)
                clear hln hget hrl
                go_upto_region 17 with fail
                have hsa := wa.heap.size
                generalize hwc : wa.alloc (.cells #[.int .i64 (n : Nat), .int .i64 x17, .bool d18, .int .u8 x19, .int .u8 x6, .int .i64 (-1)] 63) = wc
                have bac : Below wa.heap.size wa wc := by rw [← hwc]; exact (Below.refl _ _).alloc (Nat.le_refl _) _
                have b3c := hb3a.trans (bac.mono hb3a.size)
                have sc : wc.heap.size = wa.heap.size + 1 := by rw [← hwc]; simp
                have e1 : wc.drew.cell? ⟨g8, 1, none⟩ = _ := (bac.cell (p := ⟨g8, 1, none⟩) hg8a).trans e1
                have e2 : wc.drew.cell? ⟨g8, 2, none⟩ = _ := (bac.cell (p := ⟨g8, 2, none⟩) hg8a).trans e2
                have e3 : wc.drew.cell? ⟨g8, 3, none⟩ = _ := (bac.cell (p := ⟨g8, 3, none⟩) hg8a).trans e3
                have e6 : wc.drew.cell? ⟨g8, 6, none⟩ = _ := (bac.cell (p := ⟨g8, 6, none⟩) hg8a).trans e6
                have e17 : wc.drew.cell? ⟨g8, 17, none⟩ = _ := (bac.cell (p := ⟨g8, 17, none⟩) hg8a).trans e17
                have e18 : wc.drew.cell? ⟨g8, 18, none⟩ = _ := (bac.cell (p := ⟨g8, 18, none⟩) hg8a).trans e18
                have e19 : wc.drew.cell? ⟨g8, 19, none⟩ = _ := (bac.cell (p := ⟨g8, 19, none⟩) hg8a).trans e19
                have f0 : wc.drew.cell? ⟨wa.heap.size, 0, none⟩ = some (.int .i64 (n : Nat)) := by rw [← hwc]; exact cell_of_row _ wa.heap.size 0 _ tLn (0, 0) (at_alloc (w := wa) rfl)
                have f1 : wc.drew.cell? ⟨wa.heap.size, 1, none⟩ = some (.int .i64 x17) := by rw [← hwc]; exact cell_of_row _ wa.heap.size 1 _ tLn (0, 0) (at_alloc (w := wa) rfl)
                have f2 : wc.drew.cell? ⟨wa.heap.size, 2, none⟩ = some (.bool d18) := by rw [← hwc]; exact cell_of_row _ wa.heap.size 2 _ tLn (0, 0) (at_alloc (w := wa) rfl)
                have f3 : wc.drew.cell? ⟨wa.heap.size, 3, none⟩ = some (.int .u8 x19) := by rw [← hwc]; exact cell_of_row _ wa.heap.size 3 _ tLn (0, 0) (at_alloc (w := wa) rfl)
                have f4 : wc.drew.cell? ⟨wa.heap.size, 4, none⟩ = some (.int .u8 x6) := by rw [← hwc]; exact cell_of_row _ wa.heap.size 4 _ tLn (0, 0) (at_alloc (w := wa) rfl)
                have f5 : wc.drew.cell? ⟨wa.heap.size, 5, none⟩ = some (.int .i64 (-1)) := by rw [← hwc]; exact cell_of_row _ wa.heap.size 5 _ tLn (0, 0) (at_alloc (w := wa) rfl)
                generalize hg9 : wa.heap.size = g9 at *
                have hg8 : g8 < g9 := by omega
                clear hwc bac r0 r1 r2 r3 r4 r5 e0 e4
                refine region_cells [⟨g8, 1, none⟩, ⟨g8, 2, none⟩, ⟨g8, 3, none⟩, ⟨g8, 6, none⟩, ⟨g8, 17, none⟩, ⟨g8, 18, none⟩, ⟨g8, 19, none⟩, ⟨g9, 0, none⟩, ⟨g9, 1, none⟩, ⟨g9, 2, none⟩, ⟨g9, 3, none⟩, ⟨g9, 4, none⟩, ⟨g9, 5, none⟩] [(0, true), (1, true), (2, true), (3, true), (4, true), (5, true), (6, true), (7, true), (8, true), (9, true), (10, true), (11, true), (12, true), (13, true), (14, true), (15, true), (16, true), (17, true), (18, true), (19, true), (20, true), (21, true), (22, true), (23, true), (24, true), (25, true), (26, true), (27, true), (28, true), (29, false), (30, true), (31, true), (32, true), (33, true), (34, true), (35, true), (36, true), (37, true), (38, true), (39, true), (40, true), (41, true), (42, true), (43, true), (44, true), (45, true)] (by kernel_rfl) (by kernel_rfl) (by decide) (by kernel_rfl) (fun _ _ _ _ _ h => h) ?_
                generalize hwd : wc.drew = wd at *
                have b3d : Below w3.heap.size w3 wd := by rw [← hwd]; exact b3c.drew
                have sd : wd.heap.size = g9 + 1 := by rw [← hwd]; exact sc
                clear hwd b3c sc
                repeat (first | (refine SeqC.take (v := ?_) rfl (by rfl) (fun W hW => ?_) ?_; rotate_left; (focus (have ze1 := hW.get (by simp) e1; have ze2 := hW.get (by simp) e2; have ze3 := hW.get (by simp) e3; have ze6 := hW.get (by simp) e6; have ze17 := hW.get (by simp) e17; have ze18 := hW.get (by simp) e18; have ze19 := hW.get (by simp) e19; have zf0 := hW.get (by simp) f0; have zf1 := hW.get (by simp) f1; have zf2 := hW.get (by simp) f2; have zf3 := hW.get (by simp) f3; have zf4 := hW.get (by simp) f4; have zf5 := hW.get (by simp) f5; go_simp; with_reducible rfl)); simp only [Act.put, List.setIfInBounds_toArray, List.set_cons_zero, List.set_cons_succ]) | (refine SeqC.skip rfl (by rfl) ?_; simp only [Act.put, List.setIfInBounds_toArray, List.set_cons_zero, List.set_cons_succ]))
                refine SeqC.call (f := ?_) (args := ?_) rfl (by rfl) ?_ ?_
                rotate_left 2
                · (go_simp; first | with_reducible rfl | (refine ⟨?_, ?_⟩ <;> with_reducible rfl))
                refine (local_c _ _).mono ?_
                rintro e we ⟨rfl, be⟩
                refine ⟨_, rfl, Cells.of_ext be (by intro p hp; simp only [List.mem_cons, List.not_mem_nil, or_false] at hp; rcases hp with rfl | rfl | rfl | rfl | rfl | rfl | rfl | rfl | rfl | rfl | rfl | rfl | rfl <;> (first | (show g8 < wd.heap.size; omega) | (show g9 < wd.heap.size; omega))), ?_⟩
                simp only [Act.put, List.setIfInBounds_toArray, List.set_cons_zero, List.set_cons_succ]
                have e1 : we.cell? ⟨g8, 1, none⟩ = _ := (be.cell (p := ⟨g8, 1, none⟩) (by first | (show g8 < wd.heap.size; omega) | (show g9 < wd.heap.size; omega))).trans e1
                have e2 : we.cell? ⟨g8, 2, none⟩ = _ := (be.cell (p := ⟨g8, 2, none⟩) (by first | (show g8 < wd.heap.size; omega) | (show g9 < wd.heap.size; omega))).trans e2
                have e3 : we.cell? ⟨g8, 3, none⟩ = _ := (be.cell (p := ⟨g8, 3, none⟩) (by first | (show g8 < wd.heap.size; omega) | (show g9 < wd.heap.size; omega))).trans e3
                have e6 : we.cell? ⟨g8, 6, none⟩ = _ := (be.cell (p := ⟨g8, 6, none⟩) (by first | (show g8 < wd.heap.size; omega) | (show g9 < wd.heap.size; omega))).trans e6
                have e17 : we.cell? ⟨g8, 17, none⟩ = _ := (be.cell (p := ⟨g8, 17, none⟩) (by first | (show g8 < wd.heap.size; omega) | (show g9 < wd.heap.size; omega))).trans e17
                have e18 : we.cell? ⟨g8, 18, none⟩ = _ := (be.cell (p := ⟨g8, 18, none⟩) (by first | (show g8 < wd.heap.size; omega) | (show g9 < wd.heap.size; omega))).trans e18
                have e19 : we.cell? ⟨g8, 19, none⟩ = _ := (be.cell (p := ⟨g8, 19, none⟩) (by first | (show g8 < wd.heap.size; omega) | (show g9 < wd.heap.size; omega))).trans e19
                have f0 : we.cell? ⟨g9, 0, none⟩ = _ := (be.cell (p := ⟨g9, 0, none⟩) (by first | (show g8 < wd.heap.size; omega) | (show g9 < wd.heap.size; omega))).trans f0
                have f1 : we.cell? ⟨g9, 1, none⟩ = _ := (be.cell (p := ⟨g9, 1, none⟩) (by first | (show g8 < wd.heap.size; omega) | (show g9 < wd.heap.size; omega))).trans f1
                have f2 : we.cell? ⟨g9, 2, none⟩ = _ := (be.cell (p := ⟨g9, 2, none⟩) (by first | (show g8 < wd.heap.size; omega) | (show g9 < wd.heap.size; omega))).trans f2
                have f3 : we.cell? ⟨g9, 3, none⟩ = _ := (be.cell (p := ⟨g9, 3, none⟩) (by first | (show g8 < wd.heap.size; omega) | (show g9 < wd.heap.size; omega))).trans f3
                have f4 : we.cell? ⟨g9, 4, none⟩ = _ := (be.cell (p := ⟨g9, 4, none⟩) (by first | (show g8 < wd.heap.size; omega) | (show g9 < wd.heap.size; omega))).trans f4
                have f5 : we.cell? ⟨g9, 5, none⟩ = _ := (be.cell (p := ⟨g9, 5, none⟩) (by first | (show g8 < wd.heap.size; omega) | (show g9 < wd.heap.size; omega))).trans f5
                repeat (first | (refine SeqC.take (v := ?_) rfl (by rfl) (fun W hW => ?_) ?_; rotate_left; (focus (have ze1 := hW.get (by simp) e1; have ze2 := hW.get (by simp) e2; have ze3 := hW.get (by simp) e3; have ze6 := hW.get (by simp) e6; have ze17 := hW.get (by simp) e17; have ze18 := hW.get (by simp) e18; have ze19 := hW.get (by simp) e19; have zf0 := hW.get (by simp) f0; have zf1 := hW.get (by simp) f1; have zf2 := hW.get (by simp) f2; have zf3 := hW.get (by simp) f3; have zf4 := hW.get (by simp) f4; have zf5 := hW.get (by simp) f5; go_simp; with_reducible rfl)); simp only [Act.put, List.setIfInBounds_toArray, List.set_cons_zero, List.set_cons_succ]) | (refine SeqC.skip rfl (by rfl) ?_; simp only [Act.put, List.setIfInBounds_toArray, List.set_cons_zero, List.set_cons_succ]))
                refine SeqC.done ?_
                have b3e := b3d.trans (be.mono b3d.size)
                clear e1 e2 e3 e6 e17 e18 e19 f0 f1 f2 f3 f4 f5
                go_wp2
                go_roundg (sizeN D - (n + 1))
                case measure => omega
                case rel => exact ⟨n + 1, by simp, by omega, rfl, by rw [HLS.out, List.length_append]; simp, b3e⟩
          · have n4 : (x4 != 4) = true := by simpa using h4
            subst h0
            have HLN := Lib.hid (lns_none (ln_no HS2.out (by rw [HEL.out]; show (decide ((1 : Int) = 1) && decide (x4 = 4)) = false; simp [h4])))
            clear hb3a
            go_wp2
            go_roundg (sizeN D - (n + 1))
            case measure => omega
            case rel => exact ⟨n + 1, by simp, by omega, rfl, by rw [HLN.out], HB5.out⟩
        · have n0 : (x0 != 1) = true := by simpa using h0
          have HLN := Lib.hid (lns_none (ln_no HS2.out (by rw [HEL.out]; show (decide (x0 = 1) && decide (x4 = 4)) = false; simp [h0])))
          clear hb3a
          go_wp2
          go_roundg (sizeN D - (n + 1))
          case measure => omega
          case rel => exact ⟨n + 1, by simp, by omega, rfl, by rw [HLN.out], HB5.out⟩
    · obtain rfl : n = sizeN D := by omega
      go_wp2_with (go_at_call 24; refine (HS.out _ HBW.out).mono ?_; rintro e w4 ⟨rfl, b4⟩)
      go_ret
      exact ⟨rfl, HBW.out.trans (b4.mono HBW.out.size)⟩
theorem one_walk {w : World} {v : Value} {D : FnD} (h : FnOk' w v D) : Calls Tryz.prog 5 #[v] w (Yes w) := by
  cases hf : fitF D with
  | true => exact one_main h hf
  | false => exact one_not h hf
end Go.Proofs.YthdcahkedlijpaaGreat.loan
