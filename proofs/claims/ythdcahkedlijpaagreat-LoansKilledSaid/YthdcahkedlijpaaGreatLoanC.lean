/- graph.Points and loans.All: the loans of a function, as a new list. -/
import Derived.Test.YthdcahkedlijpaaGreatLoanA
import Derived.Deep.MidRow
namespace Go.Proofs.YthdcahkedlijpaaGreat.loan
open Go.RowKit Go.Proofs.YthdcahkedlijpaaGreat Go.Proofs.YthdcahkedlijpaaGreat.Am
set_option linter.unusedVariables false
abbrev tB : TypeId := 58
abbrev tS : TypeId := 51
abbrev tLn : TypeId := 63
theorem lnR : (Tryz.prog.info? 63).map (fun i => (i.zero, i.size, i.bytes)) = some (some (.agg #[.int .i64 0, .int .i64 0, .bool false, .int .u8 0, .int .u8 0, .int .i64 0]), 6, 40) := by kernel_rfl
def ChkIs (w : World) (v : Value) (x : Int) : Prop := ∀ w1, Below w.heap.size w w1 → Calls Tryz.prog 30 #[v] w1 fun e w' => e = .returned (.int .i64 x) ∧ Below w1.heap.size w1 w'
theorem ChkIs.more {w w1 : World} {v : Value} {x : Int} (h : ChkIs w v x) (hb : Below w.heap.size w w1) : ChkIs w1 v x := fun w2 h2 => h w2 (hb.trans (h2.mono hb.size))
structure Small (D : FnD) : Prop where
  n : D.bs.length ≤ 24
  s : ∀ b ∈ D.bs, b.st.length ≤ 24
theorem Small.start {D : FnD} (h : Small D) {i : Nat} (hi : i ≤ D.bs.length) : startOf D.bs i ≤ 600 := by
  have := start_le (lenB_le h.s) i
  have := h.n
  omega
def NewE (t : TypeId) (sz : Nat) (els : List (List Value)) (W : World) (e : Ending) (W' : World) : Prop := ∃ s, e = .returned (.tuple #[s, .int .i64 0]) ∧ NewL t sz els W s W'
def ptsL (D : FnD) : List (List Value) := (ptsTo D.bs D.bs.length).map ptV
def sizeN (D : FnD) : Nat := startOf D.bs D.bs.length
theorem ptsL_len (D : FnD) : (ptsL D).length = sizeN D := by unfold ptsL; rw [List.length_map, to_len]; rfl
theorem ptsL_2 (D : FnD) : ∀ x ∈ ptsL D, x.length = 2 := fun x hx => by
  obtain ⟨p, _, rfl⟩ := List.mem_map.1 hx
  rfl
theorem NewL.read {t : TypeId} {sz : Nat} {els : List (List Value)} {W W' : World} {s : Value} (h : NewL t sz els W s W') (hz : 0 < sz) (hl : ∀ x ∈ els, x.length = sz) : ∃ A c, s = .slice A els.length c ∧ RowsAt W' A sz els := RowsAt.own h.1 rfl hz hl
set_option maxRecDepth 100000 in
set_option maxHeartbeats 4000000 in
theorem points_c {w : World} {v : Value} {D : FnD} (h : FnOk' w v D) (hs : Small D) (hC : ChkIs w v 0) : Calls Tryz.prog 31 #[v] w (NewE tP 2 (ptsL D) w) := by
  have hA := fun w1 (hb : Below w.heap.size w w1) => all_c (h.frz hb.block) hs.n hs.s
  unfold ChkIs at hC
  rw [h.eq] at hC hA ⊢
  have B0 : Box (w.alloc (.cells #[.int .i64 D.p, .bool D.u, D.lv, D.bv] tF)) w.heap.size tF (.int .i64 D.p) (.bool D.u) D.lv D.bv := Box.mk rfl
  have b0 : Below w.heap.size w (w.alloc (.cells #[.int .i64 D.p, .bool D.u, D.lv, D.bv] tF)) := (Below.refl _ _).alloc (Nat.le_refl _) _
  have HC := Lib.hid hC
  have HA := Lib.hid hA
  clear hC hA h
  go_enter Tryz.func31, Tryz.ntmps31
  go_wp2_with (first | (go_at_call 30; refine (HC.out _ b0).mono ?_; rintro e w1 ⟨rfl, b1⟩; obtain ⟨y0, y1, y2, y3⟩ := (B0.below b1).cells) | (go_at_call 46; refine (HA.out _ (b0.trans (b1.mono b0.size))).mono ?_; rintro e w2 ⟨s, rfl, hown, b2⟩))
  go_ret2
  have b01 := b0.trans (b1.mono b0.size)
  exact ⟨_, rfl, owns_base hown b01.size, b01.trans (b2.mono b01.size)⟩
theorem bR : (Tryz.prog.info? 58).map (·.size) = some 14 := by kernel_rfl
theorem sR : (Tryz.prog.info? 51).map (·.size) = some 26 := by kernel_rfl
set_option maxRecDepth 100000 in
set_option maxHeartbeats 8000000 in
theorem lall_c {w : World} {v : Value} {D : FnD} (h : FnOk' w v D) (hs : Small D) (hC : ChkIs w v 0) : Calls Tryz.prog 11 #[v] w (NewE tLn 6 (lns D.bs (sizeN D)) w) := by
  have hP := fun w1 (hb : Below w.heap.size w w1) => points_c (h.frz hb.block) hs (hC.more hb)
  have HF := Lib.hid h
  unfold ChkIs at hC
  obtain ⟨A, c, e, hm, hr⟩ := FnOk'.blks h
  rw [h.eq, e] at hC hP ⊢
  have B0 : Box (w.alloc (.cells #[.int .i64 D.p, .bool D.u, D.lv, .slice A D.bs.length c] tF)) w.heap.size tF (.int .i64 D.p) (.bool D.u) D.lv (.slice A D.bs.length c) := Box.mk rfl
  have b0 : Below w.heap.size w (w.alloc (.cells #[.int .i64 D.p, .bool D.u, D.lv, .slice A D.bs.length c] tF)) := (Below.refl _ _).alloc (Nat.le_refl _) _
  have HC := Lib.hid hC
  have HP := Lib.hid hP
  have HR := Lib.hid hr
  have HS := Lib.hid hs
  clear hC hP h hr hs e
  go_enter Tryz.func11, Tryz.ntmps11
  go_upto_region 7 with (first | (go_at_call 30; refine (HC.out _ b0).mono ?_; rintro e w1 ⟨rfl, b1⟩; have B1 := B0.below b1; have b01 := b0.trans (b1.mono b0.size); obtain ⟨y0, y1, y2, y3⟩ := B1.cells) | (go_at_call 31; refine (HP.out _ b01).mono ?_; rintro e w2 ⟨s, rfl, hpt⟩))
  have b2 := hpt.2
  have b02 := b01.trans (b2.mono b01.size)
  obtain ⟨Ap, cp, rfl, hrp⟩ := hpt.read (by decide) (ptsL_2 D)
  have HBX := Lib.hid (B1.below b2)
  have HRP := Lib.hid hrp
  have hN := HS.out.start (Nat.le_refl _)
  rw [ptsL_len] at *
  clear hpt hrp B0 b0 y0 y1 y2 y3 B1 b1 b01 b2 HC HP
  go_wp2
  go_loopg [7, 28] (sizeN D) (fun g s7 s28 wr => ∃ n : Nat, s28 = .int .i64 n ∧ n ≤ sizeN D ∧ g = sizeN D - n ∧ wr.ownsRow w2.heap.size tLn 6 s7 (lns D.bs n).length (lns D.bs n).flatten ∧ Below w2.heap.size w2 wr)
  case atStart => exact ⟨0, rfl, Nat.zero_le _, rfl, World.ownsRow_nil _ _ _ _, Below.refl _ _⟩
  case round =>
    obtain ⟨n, rfl, hn, rfl, hown, hbel⟩ := hrel
    have hsz := hbel.size
    rcases Nat.lt_or_ge n (sizeN D) with hlt | hge
    · have hN5 : sizeN D ≤ 600 := hN
      have hN6 : (sizeN D : Int) ≤ 600 := by omega
      have hll := lns_len (bs := D.bs) n
      have hltI : (n : Int) < (sizeN D : Int) := by omega
      have h0N : (0 : Int) ≤ (n : Int) := Int.natCast_nonneg _
      obtain ⟨i, k, hi, hk, hnik⟩ := pt_ex hlt
      obtain ⟨b, hb⟩ : ∃ b, D.bs[i]? = some b := ⟨_, List.getElem?_eq_getElem hi⟩
      rw [lenB_of hb] at hk
      have hbw : Below w.heap.size w wr := b02.trans (hbel.mono b02.size)
      have hbk := HF.out.blk b (List.mem_of_getElem? hb)
      obtain ⟨As, cs, es, hms, hrs⟩ := BlkOk.stms hbk
      have hst : stN D.bs n = b.st[k]? := by rw [hnik, st_at hi (by rw [lenB_of hb]; exact hk), getD_mem hb]
      obtain ⟨gp, op, eP, hgp, hcp⟩ := (HRP.out.below (hbel.mono (Nat.le_refl _))) n [.int .i64 i, .int .i64 k] (by unfold ptsL; rw [hnik, List.getElem?_map, pt_get hi (by rw [lenB_of hb]; exact hk)]; rfl)
      obtain ⟨gb, ob, eA, hgb, hcb⟩ := (HR.out.below hbw) i b.cells (by rw [List.getElem?_map, hb]; rfl)
      subst eA eP
      obtain ⟨t0, t1, t2, t3⟩ := (HBX.out.below hbel).cells
      have hlt0 := (HBX.out.below hbel).lt
      have p0 := hcp 0 _ rfl
      have p1 := hcp 1 _ rfl
      simp only [Nat.add_zero] at p0
      have hiI : (i : Int) < (D.bs.length : Int) := by omega
      have h0I : (0 : Int) ≤ (i : Int) := Int.natCast_nonneg _
      have hbl := cells_len hbk
      have hb1 := blk_ones hbk
      have HCB := Lib.hid hcb
      have HO := Lib.hid hown
      have HB := Lib.hid hbel
      have HST := Lib.hid hst
      have HRS := Lib.hid hrs
      have HES := Lib.hid es
      have HBW := Lib.hid hbw
      have HBK := Lib.hid hbk
      have Hnik := Lib.hid hnik
      clear hcb hcp hown hbel hst hrs es hbw hbk hnik
      have hsto : (storeCells ⟨wr.heap.size + 1, 0, none⟩ b.cells).run Tryz.prog ((wr.alloc (.cells #[.int .i64 i, .int .i64 k] 83)).alloc (.cells #[.slice none 0 0, .int .u8 0, .int .u8 0, .int .i64 0, .int .i64 0, .bool false, .int .u8 0, .int .i64 0, .int .i64 0, .int .i64 0, .slice none 0 0, .int .i64 0, .bool false, .int .u8 0] 58)) = .ok () ((wr.alloc (.cells #[.int .i64 i, .int .i64 k] 83)).alloc (.cells b.cells.toArray 58)) := run_store_fresh (by simp) (by rw [hbl]; rfl) hb1
      go_upto_region 12 with (first | (refine wpList_load_mid rfl tB _ rfl gb (ob + i * 14) rfl b.cells _ (range_more HCB.out) Tryz.underlying58 rfl (by rw [hbl]; exact bR) ?_) | (refine wpList_store_fresh rfl tB _ _ rfl rfl _ _ (by simp) b.cells.toArray rfl rfl tB _ (by rw [List.size_toArray, hbl]; exact bR) (by rw [List.size_toArray, hbl]; rfl) (by simpa using hb1) ?_))
      generalize hwa : ((wr.alloc (.cells #[.int .i64 i, .int .i64 k] tP)).alloc (.cells b.cells.toArray tB)) = wa
      have hba : Below wr.heap.size wr wa := by rw [← hwa]; exact ((Below.refl _ _).alloc (Nat.le_refl _) _).alloc (by simp) _
      have sa : wa.heap.size = wr.heap.size + 1 + 1 := by rw [← hwa]; simp
      have q0 : wa.cell? ⟨wr.heap.size, 0, none⟩ = some (.int .i64 i) := by rw [← hwa, cell_of_row _ wr.heap.size 0 _ tP (0, 0) (at_more (at_alloc rfl))]; rfl
      have q1 : wa.cell? ⟨wr.heap.size, 1, none⟩ = some (.int .i64 k) := by rw [← hwa, cell_of_row _ wr.heap.size 1 _ tP (0, 0) (at_more (at_alloc rfl))]; rfl
      have q2 : wa.cell? ⟨wr.heap.size + 1, 0, none⟩ = some (.slice As b.st.length cs) := by rw [← hwa, cell_of_row _ (wr.heap.size + 1) 0 _ tB (0, 0) (at_alloc (by simp)), ← HES.out]; rfl
      clear hwa t0 t1 t2 t3 p0 p1
      have h0K : (0 : Int) ≤ (k : Int) := Int.natCast_nonneg _
      rcases Nat.lt_or_ge k b.st.length with hkl | hkg
      · have hklI : (k : Int) < (b.st.length : Int) := by omega
        have hkne : ((k : Int) == (b.st.length : Int)) = false := by simp; omega
        obtain ⟨el, hel⟩ : ∃ el, b.st[k]? = some el := ⟨_, List.getElem?_eq_getElem hkl⟩
        have hkk := HBK.out.skd el (List.mem_of_getElem? hel)
        obtain ⟨gs, os, eS, hgs, hrng⟩ := (HRS.out.below (HBW.out.trans (hba.mono HBW.out.size))) k el hel
        subst eS
        have hst := HST.out
        rw [hel] at hst
        have h26 : el.length = 26 := hkk.len.symm
        have h1s := stm_ones hkk
        have HKK := Lib.hid hkk
        have HRN := Lib.hid hrng
        have HS2 := Lib.hid hst
        have hsto2 : (storeCells ⟨wr.heap.size + 1 + 1, 0, none⟩ el).run Tryz.prog (wa.alloc (.cells #[.int .u8 0, .int .i64 0, .bool false, .int .u8 0, .int .u8 0, .int .u8 0, .int .u8 0, .int .u8 0, .int .i64 0, .int .i64 0, .bool false, .int .u8 0, .int .u8 0, .int .i64 0, .int .i64 0, .bool false, .int .u8 0, .int .i64 0, .bool false, .int .u8 0, .int .u8 0, .int .i64 0, .int .i64 0, .bool false, .int .u8 0, .int .i64 0] 51)) = .ok () (wa.alloc (.cells el.toArray 51)) := run_store_fresh sa (by rw [h26]; rfl) h1s
        clear hrng hst hel hkk
        go_upto_region 14 with (refine wpList_load_mid rfl tS _ rfl gs (os + k * 26) rfl el _ HRN.out Tryz.underlying51 rfl (by rw [h26]; exact sR) ?_)
        generalize hwb : (wa.alloc (.cells el.toArray tS)) = wb
        have hbb : Below wr.heap.size wr wb := by rw [← hwb]; exact hba.trans ((Below.refl _ _).alloc (by rw [sa]; omega) _)
        have sb : wb.heap.size = wr.heap.size + 1 + 1 + 1 := by rw [← hwb]; simp [sa]
        obtain ⟨x0, x1, x3, x4, x6, x17, x19, d2, d18, v5, v7, v8, v9, v10, v11, v12, v13, v14, v15, v16, v20, v21, v22, v23, v24, v25, hel, hone⟩ := stm_open HKK.out
        have hce : ∀ f u, el[f]? = some u → wb.cell? ⟨wr.heap.size + 1 + 1, f, none⟩ = some u := fun f u hu => by
          rw [← hwb, ← sa, cell_of_row _ wa.heap.size f _ tS (0, 0) (at_alloc rfl)]
          simpa using hu
        have e0 := hce 0 (.int .u8 x0) (by rw [hel]; rfl)
        have e1 := hce 1 (.int .i64 x1) (by rw [hel]; rfl)
        have e2 := hce 2 (.bool d2) (by rw [hel]; rfl)
        have e3 := hce 3 (.int .u8 x3) (by rw [hel]; rfl)
        have e4 := hce 4 (.int .u8 x4) (by rw [hel]; rfl)
        have e6 := hce 6 (.int .u8 x6) (by rw [hel]; rfl)
        have e17 := hce 17 (.int .i64 x17) (by rw [hel]; rfl)
        have e18 := hce 18 (.bool d18) (by rw [hel]; rfl)
        have e19 := hce 19 (.int .u8 x19) (by rw [hel]; rfl)
        have HO2 := Lib.hid (owns_below HO.out hbb)
        have HB2 := Lib.hid (HB.out.trans (hbb.mono HB.out.size))
        have HEL := Lib.hid hel
        clear hwb hce hel hsto hsto2 hba hbb q0 q1 q2
        by_cases h0 : x0 = 1
        · subst h0
          by_cases h4 : x4 = 4
          · subst h4
            cases d2 with
            | true =>
              have HLN := Lib.hid (show lnN D.bs n = some [.int .i64 n, .int .i64 x17, .bool d18, .int .u8 x19, .int .u8 x6, .int .i64 (-1)] from by
                rw [ln_some HS2.out (by rw [HEL.out]; rfl), HEL.out]
                rfl)
              go_wp2_with (at_builtin; refine wpList_appendN rfl _ _ 27 rfl w2.heap.size tLn (.agg #[.int .i64 0, .int .i64 0, .bool false, .int .u8 0, .int .u8 0, .int .i64 0]) 6 40 Tryz.underlying27 lnR rfl (by decide) _ _ _ rfl ((HO2.out.alloc _).alloc _) [.int .i64 n, .int .i64 x17, .bool d18, .int .u8 x19, .int .u8 x6, .int .i64 (-1)] _ 1 rfl (at_alloc (by simp [sb])) rfl (by simp [Value.oneCell']) (by omega) (by omega) ((HB2.out.alloc (by omega) _).alloc (by simp; omega) _) (by simp; omega) ?_; intro v1 w5 hown1 hbel1)
              go_roundg (sizeN D - (n + 1))
              case measure => omega
              case rel => exact ⟨n + 1, by simp, by omega, rfl, by rw [lns_some HLN.out, List.length_append, List.flatten_append]; simpa using hown1, hbel1⟩
            | false =>
              by_cases h3 : x3 = 0
              · subst h3
                have HLN := Lib.hid (show lnN D.bs n = some [.int .i64 n, .int .i64 x17, .bool d18, .int .u8 x19, .int .u8 x6, .int .i64 x1] from by
                  rw [ln_some HS2.out (by rw [HEL.out]; rfl), HEL.out]
                  rfl)
                go_wp2_with (at_builtin; refine wpList_appendN rfl _ _ 27 rfl w2.heap.size tLn (.agg #[.int .i64 0, .int .i64 0, .bool false, .int .u8 0, .int .u8 0, .int .i64 0]) 6 40 Tryz.underlying27 lnR rfl (by decide) _ _ _ rfl ((HO2.out.alloc _).alloc _) [.int .i64 n, .int .i64 x17, .bool d18, .int .u8 x19, .int .u8 x6, .int .i64 x1] _ 1 rfl (at_alloc (by simp [sb])) rfl (by simp [Value.oneCell']) (by omega) (by omega) ((HB2.out.alloc (by omega) _).alloc (by simp; omega) _) (by simp; omega) ?_; intro v1 w5 hown1 hbel1)
                go_roundg (sizeN D - (n + 1))
                case measure => omega
                case rel => exact ⟨n + 1, by simp, by omega, rfl, by rw [lns_some HLN.out, List.length_append, List.flatten_append]; simpa using hown1, hbel1⟩
              · have n3 : (x3 == 0) = false := by simpa using h3
                have _n3 := n3
                have HLN := Lib.hid (show lnN D.bs n = some [.int .i64 n, .int .i64 x17, .bool d18, .int .u8 x19, .int .u8 x6, .int .i64 (-1)] from by
                  rw [ln_some HS2.out (by rw [HEL.out]; rfl), HEL.out]
                  show some [_, _, _, _, _, Value.int .i64 (if (decide ((0 : Int) = 0) && decide (x3 = 0)) = true then x1 else -1)] = _
                  rw [if_neg (by simp [h3])]
                  rfl)
                go_wp2_with (at_builtin; refine wpList_appendN rfl _ _ 27 rfl w2.heap.size tLn (.agg #[.int .i64 0, .int .i64 0, .bool false, .int .u8 0, .int .u8 0, .int .i64 0]) 6 40 Tryz.underlying27 lnR rfl (by decide) _ _ _ rfl ((HO2.out.alloc _).alloc _) [.int .i64 n, .int .i64 x17, .bool d18, .int .u8 x19, .int .u8 x6, .int .i64 (-1)] _ 1 rfl (at_alloc (by simp [sb])) rfl (by simp [Value.oneCell']) (by omega) (by omega) ((HB2.out.alloc (by omega) _).alloc (by simp; omega) _) (by simp; omega) ?_; intro v1 w5 hown1 hbel1)
                go_roundg (sizeN D - (n + 1))
                case measure => omega
                case rel => exact ⟨n + 1, by simp, by omega, rfl, by rw [lns_some HLN.out, List.length_append, List.flatten_append]; simpa using hown1, hbel1⟩
          · have n4 : (x4 != 4) = true := by simpa using h4
            have hln : lnN D.bs n = none := ln_no HS2.out (by rw [HEL.out]; show (decide ((1 : Int) = 1) && decide (x4 = 4)) = false; simp [h4])
            have HLN := Lib.hid hln
            clear hln
            go_wp2
            go_roundg (sizeN D - (n + 1))
            case measure => omega
            case rel => exact ⟨n + 1, by simp, by omega, rfl, by rw [lns_none HLN.out]; exact HO2.out, HB2.out⟩
        · have n0 : (x0 != 1) = true := by simpa using h0
          have hln : lnN D.bs n = none := ln_no HS2.out (by rw [HEL.out]; show (decide (x0 = 1) && decide (x4 = 4)) = false; simp [h0])
          have HLN := Lib.hid hln
          clear hln
          go_wp2
          go_roundg (sizeN D - (n + 1))
          case measure => omega
          case rel => exact ⟨n + 1, by simp, by omega, rfl, by rw [lns_none HLN.out]; exact HO2.out, HB2.out⟩
      · obtain rfl : k = b.st.length := by omega
        have hkeq : ((b.st.length : Int) == (b.st.length : Int)) = true := by simp
        have hst := HST.out
        rw [List.getElem?_eq_none (Nat.le_refl _)] at hst
        have HLN := Lib.hid (ln_none hst)
        have HO2 := Lib.hid (owns_below HO.out hba)
        have HB2 := Lib.hid (HB.out.trans (hba.mono HB.out.size))
        clear hst hsto
        go_wp2
        go_roundg (sizeN D - (n + 1))
        case measure => omega
        case rel => exact ⟨n + 1, by simp, by omega, rfl, by rw [lns_none HLN.out]; exact HO2.out, HB2.out⟩
    · obtain rfl : n = sizeN D := by omega
      go_wp2
      go_ret2
      exact ⟨_, rfl, owns_base hown b02.size, b02.trans (hbel.mono b02.size)⟩
end Go.Proofs.YthdcahkedlijpaaGreat.loan
