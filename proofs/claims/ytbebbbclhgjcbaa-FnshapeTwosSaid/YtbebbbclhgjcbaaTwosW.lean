/- FnshapeTwos: the law answers true for every function. -/
import Derived.Test.YtbebbbclhgjcbaaTwosV
namespace Go.Proofs.Ytbebbbclhgjcbaa.two
open Go.RowKit Go.Proofs.Ytbebbbclhgjcbaa Go.Proofs.Ytbebbbclhgjcbaa.Am Go.Proofs.Ytbebbbclhgjcbaa.twin Go.Proofs.Ytbebbbclhgjcbaa.own Go.Proofs.Ytbebbbclhgjcbaa.more
set_option linter.unusedVariables false
set_option linter.unusedSectionVars false
set_option maxRecDepth 100000 in
set_option maxHeartbeats 8000000 in
theorem main_any {w : World} {v : Value} {D : FnD} (h : FnOk' w v D) (hg : great.greatF D = false) (hc : check.chkF D = 0) : Calls Try.prog 6 #[v] w (Yes w) := by
  have hG := fun w1 (hb : Below w.heap.size w w1) => great_c h hb
  have hC := fun w1 (hb : Below w.heap.size w w1) => check_c h hb
  have hT := fun w1 (hb : Below w.heap.size w w1) => twin_c h hc hb
  have hW := fun w1 (hb : Below w.heap.size w w1) => twos_c h hc hb
  rw [hg] at hG
  rw [hc] at hC
  have HK := Lib.hid (Kinds.of h)
  have HF := Lib.hid h
  rw [h.eq] at hG hC hT hW ⊢
  have B0 : Box (w.alloc (.cells #[.int .i64 D.p, .bool D.u, D.lv, D.bv] more.tF)) w.heap.size more.tF (.int .i64 D.p) (.bool D.u) D.lv D.bv := Box.mk rfl
  have b0 : Below w.heap.size w (w.alloc (.cells #[.int .i64 D.p, .bool D.u, D.lv, D.bv] more.tF)) := (Below.refl _ _).alloc (Nat.le_refl _) _
  have HG := Lib.hid hG
  have HC := Lib.hid hC
  have HT := Lib.hid hT
  have HW := Lib.hid hW
  have Hg := Lib.hid hg
  have Hc := Lib.hid hc
  clear hG hC hT hW hg hc h
  go_enter Try.func6, Try.ntmps6
  go_upto_region 6 with (first | (go_at_call 18; refine (HG.out _ b0).mono ?_; rintro e w1 ⟨rfl, b1⟩; have B1 := B0.below b1; have b01 := b0.trans (b1.mono b0.size); obtain ⟨y0, y1, y2, y3⟩ := B1.cells) | (go_at_call 19; refine (HC.out _ b01).mono ?_; rintro e w2 ⟨rfl, b2⟩; have B2 := B1.below b2; have b02 := b01.trans (b2.mono b01.size); obtain ⟨z0, z1, z2, z3⟩ := B2.cells) | (go_at_call 8; refine (HW.out _ b02).mono ?_; rintro e w3 ⟨sL, rfl, iL, b3⟩; have B3 := B2.below b3; have b03 := b02.trans (b3.mono b02.size); obtain ⟨v0, v1, v2, v3⟩ := B3.cells) | (go_at_call 20; refine (HT.out _ b03).mono ?_; rintro e w4 ⟨gl, cl, gb, cB, Bs, rfl, hO, hcore, b4⟩; have B4 := B3.below b4; have b04 := b03.trans (b4.mono b03.size)))
  have hN : Bs.length = D.bs.length := by simpa using congrArg List.length hcore
  obtain ⟨hA, hS⟩ := stt_start (w := w3) (D := D) (H := w.heap.size) (B := w3.heap.size) hO B4 b4 B3.lt (Nat.le_refl _) b4.size
  change Code.wp _ _ _ _ (((w4.alloc (.cells #[.int .i64 D.p, .bool D.u, .slice (some ⟨gl, 0, none⟩) D.ls.length cl, .slice (some ⟨gb, 0, none⟩) Bs.length cB] more.tF)).alloc (.cells (cntV fun _ => 0) tA)).alloc (.cells (cntV fun _ => 0) tA))
  generalize (((w4.alloc (.cells #[.int .i64 D.p, .bool D.u, .slice (some ⟨gl, 0, none⟩) D.ls.length cl, .slice (some ⟨gb, 0, none⟩) Bs.length cB] more.tF)).alloc (.cells (cntV fun _ => 0) tA)).alloc (.cells (cntV fun _ => 0) tA)) = W5 at hS ⊢
  generalize w4.heap.size + 1 + 1 = gM at *
  generalize w4.heap.size + 1 = gB at *
  generalize w4.heap.size = T at *
  have hCp := copy_is (w := w) (v := v) (gl := gl) (cl := cl) (gb := gb) (cB := cB) HK.out Hc.out hcore
  have hf4 := hO.ok hCp.kd
  generalize hDg : (⟨D.p, D.u, .slice (some ⟨gl, 0, none⟩) D.ls.length cl, .slice (some ⟨gb, 0, none⟩) Bs.length cB, D.ls, Bs, ⟨nilV, []⟩⟩ : FnD) = Dg at hA hS hCp hf4
  have HD := Lib.hid hDg
  have HA := Lib.hid hA
  have HP := Lib.hid hCp
  have HNN := Lib.hid hN
  have HF4 := Lib.hid hf4
  have HB03 := Lib.hid b03
  have HIL := Lib.hid iL
  clear b03 iL hf4 hN hDg hA hCp hO B4 b4 hcore B0 b0 b1 B1 b01 y0 y1 y2 y3 b2 B2 b02 z0 z1 z2 z3 b3 B3 v0 v1 v2 v3 b04 HG HC HT
  have hn : Dg.bs.length ≤ 24 := (check.small_of (size.of_chk HP.out.chk).1).2.1
  have HN24 := Lib.hid (check.small_of (size.of_chk HP.out.chk).1).2.2
  go_wp2
  go_loopg [8] Dg.bs.length (fun g s8 wr => ∃ i : Nat, s8 = .int .i64 i ∧ i ≤ Dg.bs.length ∧ g = Dg.bs.length - i ∧ Stt w3 w3.heap.size w.heap.size T gB gM D Dg i 0 (fun j => borAt Dg.bs i 0 j) (fun j => movAt Dg.bs i 0 j) wr)
  case atStart => exact ⟨0, rfl, Nat.zero_le _, rfl, hS⟩
  case round =>
    clear hS
    obtain ⟨i, rfl, hi, rfl, hI⟩ := hrel
    obtain ⟨t0, t1, t2, t3⟩ := hI.bT.cells
    have hbv := HP.out.bv
    rw [hbv] at t3
    rcases Nat.lt_or_ge i Dg.bs.length with hlt | hge
    · have hltI : (i : Int) < (Dg.bs.length : Int) := by omega
      have h0I : (0 : Int) ≤ (i : Int) := Int.natCast_nonneg _
      obtain ⟨b, hb⟩ : ∃ b, Dg.bs[i]? = some b := ⟨_, List.getElem?_eq_getElem hlt⟩
      obtain ⟨As, cs, es⟩ := hI.sl HP.out.kd hb
      have cg := hI.cell HP.out.kd hb hbv (f := 0) (u := b.s) rfl
      rw [es, Nat.add_zero] at cg
      have h24 := HN24.out b (List.mem_of_getElem? hb)
      have HB := Lib.hid hb
      have HI := Lib.hid hI
      have HS := Lib.hid es
      have HV := Lib.hid hbv
      clear hb hI es hbv
      go_wp2
      go_loopg [10] b.st.length (fun g s10 wr => ∃ k : Nat, s10 = .int .i64 k ∧ k ≤ b.st.length ∧ g = b.st.length - k ∧ Stt w3 w3.heap.size w.heap.size T gB gM D Dg i k (fun j => borAt Dg.bs i k j) (fun j => movAt Dg.bs i k j) wr)
      case atStart => exact ⟨0, rfl, Nat.zero_le _, rfl, HI.out⟩
      case round =>
        clear HI t0 t1 t2 t3 cg
        obtain ⟨k, rfl, hk, rfl, hI⟩ := hrel
        rcases Nat.lt_or_ge k b.st.length with hkl | hkg
        · have hklI : (k : Int) < (b.st.length : Int) := by omega
          have h0K : (0 : Int) ≤ (k : Int) := Int.natCast_nonneg _
          obtain ⟨el, hel⟩ : ∃ el, b.st[k]? = some el := ⟨_, List.getElem?_eq_getElem hkl⟩
          obtain ⟨gs, c5, hs5⟩ := hI.form HP.out.kd HB.out hkl
          have hs6 := HS.out.symm.trans hs5
          cases hs6
          have hr := hI.stm HP.out.kd HB.out hel hs5
          have hke := (HP.out.kd.bk b (List.mem_of_getElem? HB.out)).2.2.1 el (List.mem_of_getElem? hel)
          have hve : okStE.val el = true := by
            have := check.okB_of (size.of_chk HP.out.chk).2.1 b (List.mem_of_getElem? HB.out)
            unfold made.okB at this
            rw [Bool.and_eq_true] at this
            exact List.all_eq_true.1 this.1 el (List.mem_of_getElem? hel)
          have hl26 : el.length = 26 := all2_len hke
          have hsz : (Try.prog.info? 52).map (·.size) = some el.length := by rw [hl26]; kernel_rfl
          have HL := Lib.hid hel
          have HI := Lib.hid hI
          have HKE := Lib.hid hke
          have HVE := Lib.hid hve
          have HR := Lib.hid hr
          clear hel hI hke hve hr hs5
          go_wp2_with (first | (refine wpList_load_mid rfl 52 _ rfl gs (k * 26) rfl el _ HR.out Try.underlying52 rfl hsz ?_) | (go_at_call 22; refine (smv_c HKE.out HVE.out).mono ?_; rintro e wm ⟨sM, rfl, ⟨Am, cm, rfl, hmx, hrow⟩, bM⟩))
          have HM := Lib.hid (HI.out.below bM)
          have HG := Lib.hid (lt_of_at HI.out.cm)
          have HRW := Lib.hid hrow
          have HRG := Lib.hid (fun x hx => mvS_in HKE.out HVE.out (x := x) hx)
          clear HI hrow bM
          generalize hlM : mvS el = lM at *
          have HLM := Lib.hid hlM
          clear hlM
          go_loopg [13] lM.length (fun g s13 wx => ∃ n : Nat, s13 = .int .i64 n ∧ n ≤ lM.length ∧ g = lM.length - n ∧ Stt w3 w3.heap.size w.heap.size T gB gM D Dg i k (fun j => borAt Dg.bs i k j) (fun j => movAt Dg.bs i k j + cnt (lM.take n) j) wx ∧ ∀ q, q ≠ gM → wx.heap[q]? = wm.heap[q]?)
          case atStart => exact ⟨0, rfl, Nat.zero_le _, rfl, HM.out.count (fun _ _ => rfl) (fun j _ => by show _ = _ + cnt (lM.take 0) j; rw [List.take_zero, cnt_nil, Int.add_zero]), fun _ _ => rfl⟩
          case round =>
            clear HM
            obtain ⟨n, rfl, hnl, rfl, hI, hQ⟩ := hrel
            rcases Nat.lt_or_ge n lM.length with hnlt | hnge
            · have hnI : (n : Int) < (lM.length : Int) := by omega
              have h0N : (0 : Int) ≤ (n : Int) := Int.natCast_nonneg _
              obtain ⟨x, hx⟩ : ∃ x, lM[n]? = some x := ⟨_, List.getElem?_eq_getElem hnlt⟩
              have hx16 := HRG.out x (List.mem_of_getElem? hx)
              obtain ⟨y, rfl⟩ : ∃ y : Nat, x = (y : Int) := ⟨x.toNat, by omega⟩
              have hy : y < 16 := by omega
              have hyI : (y : Int) < 16 := by omega
              have h0Y : (0 : Int) ≤ (y : Int) := Int.natCast_nonneg _
              obtain ⟨gx, rfl, g1, g2, hcx⟩ := HRW.out n _ hx
              have hgx : gx ≠ gM := by have := HG.out; omega
              have cx := (World.cell?_of_block (a := ⟨gx, n, none⟩) (hQ gx hgx)).trans hcx
              have cy : wr.cell? ⟨gM, y, none⟩ = some (.int .i64 (movAt Dg.bs i k y + cnt (lM.take n) y)) := by
                rw [cell_of_row wr gM y _ tA (0, 0) hI.cm]
                exact cntV_at _ hy
              have fy := frozen_none hI.cm y
              have hand := and15 hy
              have hsm := (small hn HN24.out i k hy).2
              have hct := cnt_take y n lM
              have hcg := cnt_ge (lM.take n) y
              have hc2 : cnt lM y ≤ 2 := by have := (mvS_len el y).2; rw [HLM.out] at this; exact this
              have HX := Lib.hid hx
              have HI := Lib.hid hI
              have HQ := Lib.hid hQ
              have HCX := Lib.hid hcx
              generalize hF : movAt Dg.bs i k y + cnt (lM.take n) y = fy0 at *
              clear hx hI hQ hcx
              have hf0 : 0 ≤ fy0 := by omega
              have hf1 : fy0 ≤ 3000 := by omega
              have HFE := Lib.hid hF
              clear hF hsm hct hcg hc2
              go_wp2
              have hst := HI.out.moved HA.out hy
              rw [HFE.out] at hst
              go_roundg (lM.length - (n + 1))
              case measure => omega
              case rel => exact ⟨n + 1, by simp, by omega, rfl, hst.count (fun _ _ => rfl) (fun j _ => cnt_next HX.out (fun j => movAt Dg.bs i k j) j), fun q hq => (set_off hq).trans (HQ.out q hq)⟩
            · obtain rfl : n = lM.length := by omega
              have HI := Lib.hid (hI.count (fun _ _ => rfl) (F' := fun j => movAt Dg.bs i (k + 1) j) (fun j _ => by show _ + cnt (lM.take lM.length) j = _; rw [List.take_length, mov_step HB.out HL.out, HLM.out]))
              have HR2 := Lib.hid (hI.stm HP.out.kd HB.out HL.out HS.out)
              clear hI hQ
              cases h2 : twos.twoB el
              · have HBR := Lib.hid (fun W : World => (h2 ▸ bor_c HKE.out : Calls Try.prog 23 #[.agg el.toArray] W (Ans W (.bool false))))
                have H2 := Lib.hid h2
                clear h2
                go_wp2_with (first | (refine wpList_load_mid rfl 52 _ rfl gs (k * 26) rfl el _ HR2.out Try.underlying52 rfl hsz ?_) | (go_at_call 23; refine (HBR.out _).mono ?_; rintro e w5 ⟨rfl, b5⟩))
                have hst := ((HI.out.below b5).same HB.out HL.out H2.out).count (G' := fun j => borAt Dg.bs i (k + 1) j) (fun j _ => by show borAt Dg.bs i k j = _; rw [bor_step HB.out HL.out, isS_no H2.out]; omega) (fun _ _ => rfl)
                go_roundg (b.st.length - (k + 1))
                case measure => omega
                case rel => exact ⟨k + 1, by simp, by omega, rfl, hst⟩
              · have HBR := Lib.hid (fun W : World => (h2 ▸ bor_c HKE.out : Calls Try.prog 23 #[.agg el.toArray] W (Ans W (.bool true))))
                have H2 := Lib.hid h2
                clear h2
                go_upto_region 21 with (first | (refine wpList_load_mid rfl 52 _ rfl gs (k * 26) rfl el _ HR2.out Try.underlying52 rfl hsz ?_) | (go_at_call 23; refine (HBR.out _).mono ?_; rintro e w5 ⟨rfl, b5⟩))
                obtain ⟨y, u6, hy, hy1, hyc, hy6⟩ := el_cells HKE.out HVE.out
                have hyI : (y : Int) < 16 := by omega
                have h0Y : (0 : Int) ≤ (y : Int) := Int.natCast_nonneg _
                have hI5 := HI.out.below b5
                have cx := hI5.stm HP.out.kd HB.out HL.out HS.out 1 _ hy1
                have cy : w5.cell? ⟨gB, y, none⟩ = some (.int .i64 (borAt Dg.bs i k y)) := by
                  rw [cell_of_row w5 gB y _ tA (0, 0) hI5.cb]
                  exact cntV_at _ hy
                have fy := frozen_none hI5.cb y
                have hsm := (small hn HN24.out i k hy).1
                have HI5 := Lib.hid hI5
                have HY := Lib.hid hyc
                have HY6 := Lib.hid hy6
                generalize hF : borAt Dg.bs i k y = fy0 at *
                have hf0 : 0 ≤ fy0 := hsm.1
                have hf1 : fy0 ≤ 1000 := hsm.2
                have HFE := Lib.hid hF
                clear hI5 hyc hy1 hy6 hF hsm
                go_upto_region 22 with fail
                have hst := HI5.out.borrowed HA.out hy
                rw [HFE.out] at hst
                have hst := hst.count (G' := fun j => borAt Dg.bs i (k + 1) j) (fun j _ => by
                  rw [← HY.out, isS_two H2.out]
                  exact (bor_step HB.out HL.out j).symm) (fun _ _ => rfl)
                generalize w5.setCell ⟨gB, y, none⟩ (.int .i64 (fy0 + 1)) = W6 at *
                have c6 := hst.stm HP.out.kd HB.out HL.out HS.out 6 _ HY6.out
                have f6 := hst.frozen HB.out hkl HS.out (k * 26 + 6)
                have HST := Lib.hid hst
                clear hst cx cy fy
                go_wp2
                have hst := HST.out.turned HA.out HP.out.kd HB.out HS.out HL.out H2.out
                go_roundg (b.st.length - (k + 1))
                case measure => omega
                case rel => exact ⟨k + 1, by simp, by omega, rfl, hst⟩
        · obtain rfl : k = b.st.length := by omega
          obtain ⟨t0, t1, t2, t3⟩ := hI.bT.cells
          rw [HV.out] at t3
          have hr := hI.jrange HP.out.kd HB.out HV.out
          have HJ := Lib.hid (hI.jmp HP.out.kd HB.out)
          have hokJ : okJF b = true := by
            have := check.okB_of (size.of_chk HP.out.chk).2.1 b (List.mem_of_getElem? HB.out)
            unfold made.okB at this
            rw [Bool.and_eq_true] at this
            exact this.2
          have hszJ : (Try.prog.info? 45).map (·.size) = some (b.pre ++ b.a :: b.post).length := by
            have l1 := (HP.out.kd.bk b (List.mem_of_getElem? HB.out)).1.len
            have l2 := (HP.out.kd.bk b (List.mem_of_getElem? HB.out)).2.1.len
            have e1 : kPre.length = 9 := rfl
            have e2 : kPost.length = 3 := rfl
            have e3 : (b.pre ++ b.a :: b.post).length = 13 := by simp; omega
            have e4 : (Try.prog.info? 45).map (·.size) = some 13 := by kernel_rfl
            rw [e3]
            exact e4
          have HI := Lib.hid hI
          have HOK := Lib.hid hokJ
          have HR := Lib.hid hr
          clear hI hokJ hr
          go_wp2_with (first | (refine wpList_load_mid rfl 45 _ rfl gb (i * 14 + 1) rfl (b.pre ++ b.a :: b.post) _ HR.out Try.underlying45 rfl hszJ ?_) | (go_at_call 24; refine (jmv_c HJ.out HOK.out).mono ?_; rintro e wm ⟨sM, rfl, ⟨Am, cm, rfl, hmx, hrow⟩, bM⟩))
          have HM := Lib.hid (HI.out.below bM)
          have HG := Lib.hid (lt_of_at HI.out.cm)
          have HRW := Lib.hid hrow
          have HRG := Lib.hid (fun x hx => mvJ_in b (x := x) hx)
          clear HI hrow bM t0 t1 t2 t3
          generalize hlM : mvJ b = lM at *
          have HLM := Lib.hid hlM
          clear hlM
          go_loopg [16] lM.length (fun g s16 wx => ∃ n : Nat, s16 = .int .i64 n ∧ n ≤ lM.length ∧ g = lM.length - n ∧ Stt w3 w3.heap.size w.heap.size T gB gM D Dg i b.st.length (fun j => borAt Dg.bs i b.st.length j) (fun j => movAt Dg.bs i b.st.length j + cnt (lM.take n) j) wx ∧ ∀ q, q ≠ gM → wx.heap[q]? = wm.heap[q]?)
          case atStart => exact ⟨0, rfl, Nat.zero_le _, rfl, HM.out.count (fun _ _ => rfl) (fun j _ => by show _ = _ + cnt (lM.take 0) j; rw [List.take_zero, cnt_nil, Int.add_zero]), fun _ _ => rfl⟩
          case round =>
            clear HM
            obtain ⟨n, rfl, hnl, rfl, hI, hQ⟩ := hrel
            rcases Nat.lt_or_ge n lM.length with hnlt | hnge
            · have hnI : (n : Int) < (lM.length : Int) := by omega
              have h0N : (0 : Int) ≤ (n : Int) := Int.natCast_nonneg _
              obtain ⟨x, hx⟩ : ∃ x, lM[n]? = some x := ⟨_, List.getElem?_eq_getElem hnlt⟩
              have hx16 := HRG.out x (List.mem_of_getElem? hx)
              obtain ⟨y, rfl⟩ : ∃ y : Nat, x = (y : Int) := ⟨x.toNat, by omega⟩
              have hy : y < 16 := by omega
              have hyI : (y : Int) < 16 := by omega
              have h0Y : (0 : Int) ≤ (y : Int) := Int.natCast_nonneg _
              obtain ⟨gx, rfl, g1, g2, hcx⟩ := HRW.out n _ hx
              have hgx : gx ≠ gM := by have := HG.out; omega
              have cx := (World.cell?_of_block (a := ⟨gx, n, none⟩) (hQ gx hgx)).trans hcx
              have cy : wr.cell? ⟨gM, y, none⟩ = some (.int .i64 (movAt Dg.bs i b.st.length y + cnt (lM.take n) y)) := by
                rw [cell_of_row wr gM y _ tA (0, 0) hI.cm]
                exact cntV_at _ hy
              have fy := frozen_none hI.cm y
              have hand := and15 hy
              have hsm := (small hn HN24.out i b.st.length hy).2
              have hct := cnt_take y n lM
              have hcg := cnt_ge (lM.take n) y
              have hc2 : cnt lM y ≤ 2 := by have := mvJ_cnt b hy; have := b01 (decide ((y : Int) ∈ movesJ b.pre b.ops b.post)); rw [HLM.out] at *; omega
              have HX := Lib.hid hx
              have HI := Lib.hid hI
              have HQ := Lib.hid hQ
              have HCX := Lib.hid hcx
              generalize hF : movAt Dg.bs i b.st.length y + cnt (lM.take n) y = fy0 at *
              clear hx hI hQ hcx
              have hf0 : 0 ≤ fy0 := by omega
              have hf1 : fy0 ≤ 3000 := by omega
              have HFE := Lib.hid hF
              clear hF hsm hct hcg hc2
              go_wp2
              have hst := HI.out.moved HA.out hy
              rw [HFE.out] at hst
              go_roundg (lM.length - (n + 1))
              case measure => omega
              case rel => exact ⟨n + 1, by simp, by omega, rfl, hst.count (fun _ _ => rfl) (fun j _ => cnt_next HX.out (fun j => movAt Dg.bs i b.st.length j) j), fun q hq => (set_off hq).trans (HQ.out q hq)⟩
            · obtain rfl : n = lM.length := by omega
              have hst := (hI.roll HB.out).count (G' := fun j => borAt Dg.bs (i + 1) 0 j) (F' := fun j => movAt Dg.bs (i + 1) 0 j) (fun j _ => (bor_roll HB.out j).symm) (fun j _ => by show _ + cnt (lM.take lM.length) j = _; rw [List.take_length, mov_roll HB.out, HLM.out])
              have HST := Lib.hid hst
              clear hI hQ hst
              go_wp2
              go_roundg (Dg.bs.length - (i + 1))
              case measure => omega
              case rel => exact ⟨i + 1, by simp, by omega, rfl, HST.out⟩
    · obtain rfl : i = Dg.bs.length := by omega
      obtain ⟨wo, rfl⟩ : ∃ wo : World, wo = wr := ⟨_, rfl⟩
      obtain ⟨AL, cL, hsL, hmL, rL⟩ := HIL.out.below hI.bel
      subst hsL
      have hlaw := fun t (ht : t < 16) => final_law HF4.out HP.out (t := t) ht
      have bW : Below w.heap.size w wo := HB03.out.trans (hI.bel.mono HB03.out.size)
      obtain ⟨f0, f1, f2, f3⟩ := hI.bH.cells
      have hnone := none_c hI HP.out
      rw [hbv] at hnone
      have hll : twosL.locs D = incr 0 (twosL.bits D) := rfl
      have hbl := twosL.bits_len D
      rw [hll] at rL hmL ⊢
      have HI := Lib.hid hI
      have HNO := Lib.hid hnone
      have HLAW := Lib.hid hlaw
      have HRL := Lib.hid rL
      have HV := Lib.hid hbv
      have HBL := Lib.hid hbl
      have HBW := Lib.hid bW
      clear hI hnone hlaw rL hbv hbl hll bW HIL HW
      generalize twosL.bits D = bs at *
      go_wp2
      go_loopg [17, 18] 16 (fun g s17 s18 wx => ∃ t : Nat, s18 = .int .i64 t ∧ t ≤ 16 ∧ g = 16 - t ∧ s17 = .int .i64 (((incr 0 (bs.take t)).length : Nat) : Int) ∧ wx = wo)
      case atStart => exact ⟨0, rfl, Nat.zero_le _, rfl, rfl, rfl⟩
      case round =>
        obtain ⟨t, rfl, ht, rfl, rfl, rfl⟩ := hrel
        rcases Nat.lt_or_ge t 16 with htl | htg
        · have htI : (t : Int) < 16 := by omega
          have h0T : (0 : Int) ≤ (t : Int) := Int.natCast_nonneg _
          obtain ⟨bt, hbt, l1, l0⟩ := HLAW.out t htl
          have htake : bs.take (t + 1) = bs.take t ++ [bt] := by rw [List.take_add_one, hbt]; rfl
          have htl2 : (bs.take t).length = t := by rw [List.length_take, HBL.out]; omega
          have cB' : wr.cell? ⟨gB, t, none⟩ = some (.int .i64 (borAt Dg.bs Dg.bs.length 0 t)) := by
            rw [cell_of_row wr gB t _ tA (0, 0) HI.out.cb]
            exact cntV_at _ htl
          have cM' : wr.cell? ⟨gM, t, none⟩ = some (.int .i64 (movAt Dg.bs Dg.bs.length 0 t)) := by
            rw [cell_of_row wr gM t _ tA (0, 0) HI.out.cm]
            exact cntV_at _ htl
          have HTK := Lib.hid htake
          have HT2 := Lib.hid htl2
          clear htake htl2
          cases bt
          · rw [l0 rfl] at cB'
            clear l0 l1 hbt cM'
            go_wp2
            go_roundg (16 - (t + 1))
            case measure => omega
            case rel => exact ⟨t + 1, by simp, by omega, rfl, by rw [HTK.out, incr_app]; simp, rfl⟩
          · obtain ⟨e1, e2, e3⟩ := l1 rfl
            rw [e1] at cB'
            rw [e2] at cM'
            have hat := locs_at hbt
            have hinc : (incr 0 (bs.take (t + 1))).length = (incr 0 (bs.take t)).length + 1 := by rw [HTK.out, incr_app]; simp
            have HINC := Lib.hid hinc
            have halt := (List.getElem?_eq_some_iff.1 hat).1
            obtain ⟨pl, ol, eA, _, hcl⟩ := HRL.out (by omega)
            subst eA
            have cl' := hcl _ halt
            rw [List.getD_eq_getElem?_getD, hat] at cl'
            have cl' : wr.cell? ⟨pl, ol + (incr 0 (bs.take t)).length, none⟩ = some (.int .i64 (t : Int)) := cl'
            clear l0 l1 hbt e1 e2 hat hcl hinc
            generalize (incr 0 (bs.take t)).length = a at *
            have haI : (a : Int) < ((incr 0 bs).length : Int) := by omega
            have h0A : (0 : Int) ≤ (a : Int) := Int.natCast_nonneg _
            have hg1 : decide ((a : Int) ≥ ((incr 0 bs).length : Int)) = false := decide_eq_false (by omega)
            have hg2 : decide ((t : Int) ≤ D.p) = false := decide_eq_false (by omega)
            go_wp2
            go_roundg (16 - (t + 1))
            case measure => omega
            case rel => exact ⟨t + 1, by simp, by omega, rfl, by rw [HINC.out]; simp, rfl⟩
        · obtain rfl : t = 16 := by omega
          have htake : bs.take 16 = bs := List.take_of_length_le (by have := HBL.out; omega)
          rw [htake]
          have hnn := HNO.out
          have HNO := Lib.hid hnn
          clear htake hnn
          generalize (incr 0 bs).length = a at *
          go_wp2_with (first | (go_at_call 8; refine HNO.out.mono ?_; rintro e w7 ⟨sN, rfl, ⟨AN, cN, rfl, _, _⟩, b7⟩) | (go_at_call 17; refine (alive_from (HBW.out.trans (b7.mono HBW.out.size))).mono ?_; rintro e w9 ⟨rfl, hbE⟩))
          go_ret
          exact ⟨rfl, hbE⟩
theorem walk {w : World} {v : Value} {D : FnD} (h : FnOk' w v D) : Calls Try.prog 6 #[v] w (Yes w) := by
  cases hg : great.greatF D with
  | true => exact not_any h (.inl hg)
  | false =>
    by_cases hc : check.chkF D = 0
    · exact main_any h hg hc
    · exact not_any h (.inr ⟨hg, hc⟩)
end Go.Proofs.Ytbebbbclhgjcbaa.two
