/- LoansRegions: the law answers true for every function. -/
import Derived.Test.YthdcahkedlijpaaGreatLoanS
import Derived.Test.YthdcahkedlijpaaGreatAlive21
namespace Go.Proofs.YthdcahkedlijpaaGreat.loan
open Go.RowKit Go.Proofs.YthdcahkedlijpaaGreat Go.Proofs.YthdcahkedlijpaaGreat.Am
set_option linter.unusedVariables false
def YesR (w : World) (e : Ending) (w' : World) : Prop := e = .returned (.bool true) ∧ Below w.heap.size w w'
theorem lns_idx {bs : List BlkD} : ∀ {N m : Nat} {x : List Value}, (lns bs N)[m]? = some x → ∃ n, n < N ∧ lnN bs n = some x ∧ (lns bs n).length = m
  | 0, m, x, h => by rw [lns_zero] at h; simp at h
  | N + 1, m, x, h => by
    cases hx : lnN bs N with
    | none =>
      rw [lns_none hx] at h
      obtain ⟨n, h1, h2, h3⟩ := lns_idx h
      exact ⟨n, by omega, h2, h3⟩
    | some y =>
      rw [lns_some hx] at h
      by_cases hm : m < (lns bs N).length
      · rw [List.getElem?_append_left hm] at h
        obtain ⟨n, h1, h2, h3⟩ := lns_idx h
        exact ⟨n, by omega, h2, h3⟩
      · rw [List.getElem?_append_right (by omega)] at h
        have he : m - (lns bs N).length = 0 := by
          have := (List.getElem?_eq_some_iff.1 h).1
          simpa using this
        rw [he] at h
        have h : some y = some x := h
        cases h
        exact ⟨N, by omega, hx, by omega⟩
theorem ln_lit {w : World} {v : Value} {D : FnD} (h : FnOk' w v D) {N k : Nat} {x : List Value} (hx : (lns D.bs N)[k]? = some x) : ∃ (n a c d e : Int) (u : Bool), x = [.int .i64 n, .int .i64 a, .bool u, .int .u8 c, .int .u8 d, .int .i64 e] := by
  obtain ⟨n, _, hl, _⟩ := lns_idx hx
  unfold lnN at hl
  cases hs : stN D.bs n with
  | none => rw [hs] at hl; cases hl
  | some st =>
    rw [hs] at hl
    have hl : (if isRef st = true then some (lnS n st) else none) = some x := hl
    cases hr : isRef st with
    | false => rw [if_neg (by rw [hr]; decide)] at hl; cases hl
    | true =>
      rw [if_pos hr] at hl
      cases hl
      unfold stN at hs
      cases hp : (ptsTo D.bs D.bs.length)[n]? with
      | none => rw [hp] at hs; cases hs
      | some p =>
        rw [hp] at hs
        have hs : (D.bs.getD p.1 b0).st[p.2]? = some st := hs
        have hk : All2 Kd.ok kS26 st := by
          rcases blk_ok h p.1 with k | k
          · exact BlkOk.skd (b := D.bs.getD p.1 b0) k st (List.mem_of_getElem? hs)
          · have k : D.bs.getD p.1 b0 = b0 := k
            rw [k] at hs
            have : b0.st = [] := rfl
            rw [this] at hs
            simp at hs
        obtain ⟨x0, x1, x3, x4, x6, x17, x19, d2, d18, v5, v7, v8, v9, v10, v11, v12, v13, v14, v15, v16, v20, v21, v22, v23, v24, v25, hel, _⟩ := stm_open hk
        refine ⟨n, x17, x19, x6, if whole st then cellI st 1 else -1, d18, ?_⟩
        have e : lnS n st = [.int .i64 n, cel st 17, cel st 18, cel st 19, cel st 6, .int .i64 (if whole st then cellI st 1 else -1)] := rfl
        have e17 : cel st 17 = .int .i64 x17 := by rw [hel]; rfl
        have e18 : cel st 18 = .bool d18 := by rw [hel]; rfl
        have e19 : cel st 19 = .int .u8 x19 := by rw [hel]; rfl
        have e6 : cel st 6 = .int .u8 x6 := by rw [hel]; rfl
        rw [e, e17, e18, e19, e6]
def cof (f : Nat) (cl : List (List Value)) (i : Nat) : Nat := ((cl.take i).filter fun c => decide (cellI c 0 = ((f : Nat) : Int))).length
theorem cof_next {f i : Nat} {cl : List (List Value)} {c : List Value} (h : cl[i]? = some c) : cof f cl (i + 1) = cof f cl i + if cellI c 0 = ((f : Nat) : Int) then 1 else 0 := by
  unfold cof
  rw [List.take_add_one, h, List.filter_append, List.length_append]
  by_cases hc : cellI c 0 = ((f : Nat) : Int)
  · rw [if_pos hc]; simp [hc]
  · rw [if_neg hc]; simp [hc]
theorem cof_le (f : Nat) (cl : List (List Value)) (i : Nat) : cof f cl i ≤ i := by
  unfold cof
  refine Nat.le_trans (List.length_filter_le _ _) ?_
  rw [List.length_take]
  exact Nat.min_le_left _ _
set_option maxRecDepth 100000 in
set_option maxHeartbeats 4000000 in
theorem reg_not {w : World} {v : Value} {D : FnD} (h : FnOk' w v D) (hf : fitF D = false) : Calls Tryz.prog 8 #[v] w (YesR w) := by
  have hT := fun w1 (hb : Below w.heap.size w w1) => fit_c (h.frz hb.block)
  rw [h.eq, hf] at hT
  rw [h.eq]
  have HT := Lib.hid hT
  clear hT h hf
  have B0 : Box (w.alloc (.cells #[.int .i64 D.p, .bool D.u, D.lv, D.bv] tF)) w.heap.size tF (.int .i64 D.p) (.bool D.u) D.lv D.bv := Box.mk rfl
  have b0 : Below w.heap.size w (w.alloc (.cells #[.int .i64 D.p, .bool D.u, D.lv, D.bv] tF)) := (Below.refl _ _).alloc (Nat.le_refl _) _
  go_enter Tryz.func8, Tryz.ntmps8
  go_wp2_with (first | (go_at_call 22; refine (alive21 _).mono ?_; rintro e w1 ⟨rfl, b1⟩; obtain ⟨y0, y1, y2, y3⟩ := (B0.below b1).cells) | (go_at_call 23; refine (HT.out _ (b0.trans (b1.mono b0.size))).mono ?_; rintro e w2 ⟨rfl, b2⟩))
  go_ret
  have b01 := b0.trans (b1.mono b0.size)
  exact ⟨rfl, b01.trans (b2.mono b01.size)⟩
set_option maxRecDepth 100000 in
set_option maxHeartbeats 8000000 in
theorem reg_main {w : World} {v : Value} {D : FnD} (h : FnOk' w v D) (hf : fitF D = true) : Calls Tryz.prog 8 #[v] w (YesR w) := by
  have hc := fit_chk hf
  have hsm := small_of hc
  have hT := fun w1 (hb : Below w.heap.size w w1) => fit_c (h.frz hb.block)
  have hA := fun w1 (hb : Below w.heap.size w w1) => lall_c (h.frz hb.block) hsm (hc ▸ chk_is (h.frz hb.block))
  have hK := fun w1 (hb : Below w.heap.size w w1) => call_c (h.frz hb.block) hc
  have HLIT := Lib.hid (fun (k : Nat) x (hx : (lns D.bs (sizeN D))[k]? = some x) => ln_lit h hx)
  obtain ⟨Av, cv, elv, hmv, _⟩ := ListAt.rows h.locals (by decide)
  rw [h.eq, hf, elv] at hT
  rw [h.eq, elv] at hA hK ⊢
  have HT := Lib.hid hT
  have HA := Lib.hid hA
  have HK := Lib.hid hK
  have hN6 : sizeN D ≤ 600 := hsm.start (Nat.le_refl _)
  have hlen := lns_len (bs := D.bs) (sizeN D)
  have hls := (check.small_of (size.of_chk hc).1).1
  have hlsI : (D.ls.length : Int) ≤ 16 := by omega
  clear hT hA hK h hf hc hsm elv
  have B0 : Box (w.alloc (.cells #[.int .i64 D.p, .bool D.u, .slice Av D.ls.length cv, D.bv] tF)) w.heap.size tF (.int .i64 D.p) (.bool D.u) (.slice Av D.ls.length cv) D.bv := Box.mk rfl
  have b0 : Below w.heap.size w (w.alloc (.cells #[.int .i64 D.p, .bool D.u, .slice Av D.ls.length cv, D.bv] tF)) := (Below.refl _ _).alloc (Nat.le_refl _) _
  go_enter Tryz.func8, Tryz.ntmps8
  go_upto_region 8 with (first | (go_at_call 22; refine (alive21 _).mono ?_; rintro e w1 ⟨rfl, b1⟩; have B1 := B0.below b1; have b01 := b0.trans (b1.mono b0.size); obtain ⟨y0, y1, y2, y3⟩ := B1.cells) | (go_at_call 23; refine (HT.out _ b01).mono ?_; rintro e w2 ⟨rfl, b2⟩; have B2 := B1.below b2; have b02 := b01.trans (b2.mono b01.size); obtain ⟨z0, z1, z2, z3⟩ := B2.cells) | (go_at_call 11; refine (HA.out _ b02).mono ?_; rintro e w3 ⟨s, rfl, hnl⟩; have b3 := hnl.2; have B3 := B2.below b3; have b03 := b02.trans (b3.mono b02.size); obtain ⟨v0, v1, v2, v3⟩ := B3.cells) | (go_at_call 28; refine (HK.out _ b03).mono ?_; rintro e w4 ⟨sc, cl, rfl, hcl, hinv⟩))
  have b4 := hcl.2
  obtain ⟨L, hL⟩ : ∃ L, L = lns D.bs (sizeN D) := ⟨_, rfl⟩
  rw [← hL] at hnl hlen
  obtain ⟨Al, clp, rfl, hrl⟩ := hnl.read (by decide) (fun x hx => lns_6 (by rw [hL] at hx; exact hx))
  obtain ⟨Ac, cap, rfl, hrc⟩ := hcl.read (by decide) hinv.c4
  have hrl4 := hrl.below b4
  have HB4 := Lib.hid (B3.below b4)
  have HB04 := Lib.hid (b03.trans (b4.mono b03.size))
  have HRL := Lib.hid hrl4
  have HRCC := Lib.hid hrc
  have HLE := Lib.hid hL
  have hcll := hinv.len
  have HINV := Lib.hid hinv
  have hL6 : L.length ≤ 600 := by omega
  have hL6I : (L.length : Int) ≤ 600 := by omega
  have hC6I : (cl.length : Int) ≤ 1200 := by omega
  clear hnl hcl hinv hrl hrl4 hrc B0 b0 b1 B1 b01 y0 y1 y2 y3 b2 B2 b02 z0 z1 z2 z3 b3 B3 b03 v0 v1 v2 v3 b4 HT HA HK hL hlen
  go_wp2
  go_loopg [8] L.length (fun g s8 wr => ∃ k : Nat, s8 = .int .i64 k ∧ k ≤ L.length ∧ g = L.length - k ∧ Below w4.heap.size w4 wr)
  case atStart => exact ⟨0, rfl, Nat.zero_le _, rfl, Below.refl _ _⟩
  case round =>
    obtain ⟨k, rfl, hk, rfl, hbel⟩ := hrel
    have h0K : (0 : Int) ≤ (k : Int) := Int.natCast_nonneg _
    rcases Nat.lt_or_ge k L.length with hkl | hkg
    · have hkI : (k : Int) < (L.length : Int) := by omega
      obtain ⟨x, hx⟩ : ∃ x, L[k]? = some x := ⟨_, List.getElem?_eq_getElem hkl⟩
      have hx2 := hx
      rw [HLE.out] at hx2
      obtain ⟨x0, xa, xc, xd, x5, u, rfl⟩ := HLIT.out k x hx2
      have hfil := HINV.out.from_ k _ hx2
      have hf5 : cellI [.int .i64 x0, .int .i64 xa, .bool u, .int .u8 xc, .int .u8 xd, .int .i64 x5] 5 = x5 := rfl
      have hf0 : cellI [.int .i64 x0, .int .i64 xa, .bool u, .int .u8 xc, .int .u8 xd, .int .i64 x5] 0 = x0 := rfl
      rw [hf5, hf0] at hfil
      have HFIL := Lib.hid hfil
      have HX := Lib.hid hx
      have HBEL := Lib.hid hbel
      have hsum : IntKind.i64.wrap ((D.ls.length : Int) + (k : Int)) = (D.ls.length : Int) + (k : Int) := IntWalk.i64_in _ (by omega)
      have HC0 := Lib.hid (show cof (D.ls.length + k) cl 0 = 0 from rfl)
      clear hfil hf5 hf0 hx hx2 hbel
      go_wp2
      go_loopg [9, 10] cl.length (fun g s9 s10 wx => ∃ i : Nat, s10 = .int .i64 i ∧ i ≤ cl.length ∧ g = cl.length - i ∧ s9 = .int .i64 (cof (D.ls.length + k) cl i : Nat) ∧ Below w4.heap.size w4 wx)
      case atStart => exact ⟨0, rfl, Nat.zero_le _, rfl, by rw [HC0.out]; rfl, HBEL.out⟩
      case round =>
        obtain ⟨i, rfl, hi, rfl, rfl, hbx⟩ := hrel
        obtain ⟨wx, rfl⟩ : ∃ wx : World, wx = wr := ⟨_, rfl⟩
        obtain ⟨t0, t1, t2, t3⟩ := (HB4.out.below hbx).cells
        have h0I : (0 : Int) ≤ (i : Int) := Int.natCast_nonneg _
        have hcle := cof_le (D.ls.length + k) cl i
        obtain ⟨gl, ol, eL, hgl, hrk⟩ := RowsAt.at HRL.out hbx HX.out
        have r0 := hrk 0 _ rfl
        have r5 := hrk 5 _ rfl
        simp only [Nat.add_zero] at r0
        have HBX := Lib.hid hbx
        clear hrk hbx
        rcases Nat.lt_or_ge i cl.length with hil | hig
        · have hiI : (i : Int) < (cl.length : Int) := by omega
          obtain ⟨c, hcx⟩ : ∃ c, cl[i]? = some c := ⟨_, List.getElem?_eq_getElem hil⟩
          obtain ⟨f, t, a, y, hce⟩ := HINV.out.lit c (List.mem_of_getElem? hcx)
          obtain ⟨gc, oc, eC, hgc, hrc⟩ := RowsAt.at HRCC.out HBX.out hcx
          subst eL eC
          have c0 := hrc 0 (.int .i64 f) (by rw [hce]; rfl)
          simp only [Nat.add_zero] at c0
          have hnx := cof_next (f := D.ls.length + k) hcx
          have hcf : cellI c 0 = f := by rw [hce]; rfl
          rw [hcf] at hnx
          by_cases hfe : f = (D.ls.length : Int) + (k : Int)
          · have hmem : c ∈ cl.filter (fun c => decide (cellI c 0 = ((D.ls.length + k : Nat) : Int))) := List.mem_filter.2 ⟨List.mem_of_getElem? hcx, decide_eq_true (by rw [hcf, hfe]; omega)⟩
            rw [HFIL.out] at hmem
            have h5 : 0 ≤ x5 := by
              by_cases h5 : 0 ≤ x5
              · exact h5
              · rw [if_neg h5] at hmem; cases hmem
            rw [if_pos h5] at hmem
            have hcs := List.mem_singleton.1 hmem
            have c1 := hrc 1 (.int .i64 x5) (by rw [hcs]; rfl)
            have c2 := hrc 2 (.int .i64 x0) (by rw [hcs]; rfl)
            have c3 := hrc 3 (.int .u8 2) (by rw [hcs]; rfl)
            have HN1 := Lib.hid (show cof (D.ls.length + k) cl (i + 1) = cof (D.ls.length + k) cl i + 1 by rw [hnx, if_pos (by rw [hfe]; omega)])
            have hcI : ((cof (D.ls.length + k) cl i : Nat) : Int) ≤ 1200 := by omega
            have hfb : (f == (D.ls.length : Int) + (k : Int)) = true := by simp [hfe]
            clear hrc hnx hcf hmem hcs hce hcx hfe h5
            go_upto_region 15 with fail
            refine region_cells [⟨gc, oc + i * 4, none⟩, ⟨w.heap.size, 2, none⟩] [(0, true), (1, true), (2, true), (3, true), (4, true), (5, true), (6, true), (7, true), (8, true), (9, true), (10, true)] (by kernel_rfl) (by kernel_rfl) (by decide) (by kernel_rfl) (fun _ _ _ _ _ h => h) ?_
            have d0 : wx.drew.cell? ⟨gc, oc + i * 4, none⟩ = _ := c0
            have d1 : wx.drew.cell? ⟨w.heap.size, 2, none⟩ = _ := t2
            repeat (first | (refine SeqC.take (v := ?_) rfl (by rfl) (fun W hW => ?_) ?_; rotate_left; (focus (have q0 := hW.get (by simp) d0; have q1 := hW.get (by simp) d1; go_simp; with_reducible rfl)); simp only [Act.put, List.setIfInBounds_toArray, List.set_cons_zero, List.set_cons_succ]) | (refine SeqC.skip rfl (by rfl) ?_; simp only [Act.put, List.setIfInBounds_toArray, List.set_cons_zero, List.set_cons_succ]))
            refine SeqC.done ?_
            clear d0 d1
            go_upto_region 17 with fail
            refine region_cells [⟨gc, oc + i * 4 + 1, none⟩, ⟨gc, oc + i * 4 + 2, none⟩, ⟨gc, oc + i * 4 + 3, none⟩, ⟨gl, ol + k * 6, none⟩, ⟨gl, ol + k * 6 + 5, none⟩] [(0, true), (1, true), (2, true), (3, true), (4, true), (5, true), (6, true), (7, true), (8, true), (9, true), (10, true), (11, true), (12, true), (13, true), (14, true), (15, true), (16, true), (17, true), (18, true), (19, true), (20, true), (21, true), (22, true), (23, true), (24, true), (25, true), (26, true), (27, true), (28, true), (29, true), (30, true), (31, true)] (by kernel_rfl) (by kernel_rfl) (by decide) (by kernel_rfl) (fun _ _ _ _ _ h => h) ?_
            have d0 : wx.drew.drew.cell? ⟨gc, oc + i * 4 + 1, none⟩ = _ := c1
            have d1 : wx.drew.drew.cell? ⟨gc, oc + i * 4 + 2, none⟩ = _ := c2
            have d2 : wx.drew.drew.cell? ⟨gc, oc + i * 4 + 3, none⟩ = _ := c3
            have d3 : wx.drew.drew.cell? ⟨gl, ol + k * 6, none⟩ = _ := r0
            have d4 : wx.drew.drew.cell? ⟨gl, ol + k * 6 + 5, none⟩ = _ := r5
            repeat (first | (refine SeqC.take (v := ?_) rfl (by rfl) (fun W hW => ?_) ?_; rotate_left; (focus (have q0 := hW.get (by simp) d0; have q1 := hW.get (by simp) d1; have q2 := hW.get (by simp) d2; have q3 := hW.get (by simp) d3; have q4 := hW.get (by simp) d4; go_simp; with_reducible rfl)); simp only [Act.put, List.setIfInBounds_toArray, List.set_cons_zero, List.set_cons_succ]) | (refine SeqC.skip rfl (by rfl) ?_; simp only [Act.put, List.setIfInBounds_toArray, List.set_cons_zero, List.set_cons_succ]))
            refine SeqC.done ?_
            clear d0 d1 d2 d3 d4 c1 c2 c3 r0 r5
            go_wp2
            go_roundg (cl.length - (i + 1))
            case measure => omega
            case rel => exact ⟨i + 1, by simp, by omega, rfl, by rw [HN1.out]; simp, HBX.out.drew.drew⟩
          · have HN1 := Lib.hid (show cof (D.ls.length + k) cl (i + 1) = cof (D.ls.length + k) cl i by rw [hnx, if_neg (by omega)]; rfl)
            have hfb : (f == (D.ls.length : Int) + (k : Int)) = false := by simp [hfe]
            clear hrc hnx hcf hce hcx
            go_upto_region 15 with fail
            refine region_cells [⟨gc, oc + i * 4, none⟩, ⟨w.heap.size, 2, none⟩] [(0, true), (1, true), (2, true), (3, true), (4, true), (5, true), (6, true), (7, true), (8, true), (9, true), (10, true)] (by kernel_rfl) (by kernel_rfl) (by decide) (by kernel_rfl) (fun _ _ _ _ _ h => h) ?_
            have d0 : wx.drew.cell? ⟨gc, oc + i * 4, none⟩ = _ := c0
            have d1 : wx.drew.cell? ⟨w.heap.size, 2, none⟩ = _ := t2
            repeat (first | (refine SeqC.take (v := ?_) rfl (by rfl) (fun W hW => ?_) ?_; rotate_left; (focus (have q0 := hW.get (by simp) d0; have q1 := hW.get (by simp) d1; go_simp; with_reducible rfl)); simp only [Act.put, List.setIfInBounds_toArray, List.set_cons_zero, List.set_cons_succ]) | (refine SeqC.skip rfl (by rfl) ?_; simp only [Act.put, List.setIfInBounds_toArray, List.set_cons_zero, List.set_cons_succ]))
            refine SeqC.done ?_
            clear d0 d1
            go_wp2
            go_roundg (cl.length - (i + 1))
            case measure => omega
            case rel => exact ⟨i + 1, by simp, by omega, rfl, by rw [HN1.out], HBX.out.drew⟩
        · obtain rfl : i = cl.length := by omega
          have hall : cof (D.ls.length + k) cl cl.length = if 0 ≤ x5 then 1 else 0 := by
            unfold cof
            rw [List.take_length, HFIL.out]
            split <;> rfl
          subst eL
          by_cases h5 : 0 ≤ x5
          · rw [if_pos h5] at hall
            rw [hall]
            have hd5 : decide (x5 ≥ 0) = true := decide_eq_true h5
            clear hall r0 hcle
            go_wp2
            go_roundg (L.length - (k + 1))
            case measure => omega
            case rel => exact ⟨k + 1, by simp, by omega, rfl, HBX.out⟩
          · rw [if_neg h5] at hall
            rw [hall]
            have hd5 : decide (x5 ≥ 0) = false := decide_eq_false h5
            have hd6 : decide (0 ≤ x5) = false := decide_eq_false h5
            clear hall r0 hcle
            go_wp2
            go_roundg (L.length - (k + 1))
            case measure => omega
            case rel => exact ⟨k + 1, by simp, by omega, rfl, HBX.out⟩
    · obtain rfl : k = L.length := by omega
      go_wp2
      go_ret
      exact ⟨rfl, HB04.out.trans (hbel.mono HB04.out.size)⟩
theorem reg_walk {w : World} {v : Value} {D : FnD} (h : FnOk' w v D) : Calls Tryz.prog 8 #[v] w (YesR w) := by
  cases hf : fitF D with
  | true => exact reg_main h hf
  | false => exact reg_not h hf
end Go.Proofs.YthdcahkedlijpaaGreat.loan
