/- loans.Kills, by its contract: a new list of truth values. -/
import Derived.Test.YthdcahkedlijpaaGreatLoanU
namespace Go.Proofs.YthdcahkedlijpaaGreat.loan
open Go.RowKit Go.Proofs.YthdcahkedlijpaaGreat Go.Proofs.YthdcahkedlijpaaGreat.Am
set_option linter.unusedVariables false
theorem lns_idx {bs : List BlkD} : ∀ {N m : Nat} {x : List Value}, (lns bs N)[m]? = some x → ∃ n, n < N ∧ lnN bs n = some x ∧ (lns bs n).length = m
  | 0, m, x, h => by rw [lns_zero] at h; simp at h
  | N + 1, m, x, h => by
    cases hx : lnN bs N with
    | none =>
      rw [lns_none hx] at h
      obtain ⟨n, h1, h2, h3⟩ := lns_idx h
      exact ⟨n, by omega, h2, h3⟩
    | some y =>
      rw [lns_some hx] at h
      by_cases hm : m < (lns bs N).length
      · rw [List.getElem?_append_left hm] at h
        obtain ⟨n, h1, h2, h3⟩ := lns_idx h
        exact ⟨n, by omega, h2, h3⟩
      · rw [List.getElem?_append_right (by omega)] at h
        have he : m - (lns bs N).length = 0 := by
          have := (List.getElem?_eq_some_iff.1 h).1
          simpa using this
        rw [he] at h
        have h : some y = some x := h
        cases h
        exact ⟨N, by omega, hx, by omega⟩
theorem ln_of {bs : List BlkD} {n : Nat} {x : List Value} (h : lnN bs n = some x) : ∃ st, stN bs n = some st ∧ isRef st = true ∧ x = lnS n st := by
  unfold lnN at h
  cases hs : stN bs n with
  | none => rw [hs] at h; cases h
  | some st =>
    rw [hs] at h
    have h : (if isRef st = true then some (lnS n st) else none) = some x := h
    cases hr : isRef st with
    | true => rw [if_pos hr] at h; cases h; exact ⟨st, rfl, hr, rfl⟩
    | false => rw [if_neg (by rw [hr]; decide)] at h; cases h
theorem st_mem2 {D : FnD} {n : Nat} {el : List Value} (h : stN D.bs n = some el) : ∃ b ∈ D.bs, el ∈ b.st := by
  unfold stN at h
  cases hp : (ptsTo D.bs D.bs.length)[n]? with
  | none => rw [hp] at h; cases h
  | some p =>
    rw [hp] at h
    have hs : (D.bs.getD p.1 b0).st[p.2]? = some el := h
    rcases get_or (l := D.bs) (i := p.1) (d := b0) with k | k
    · exact ⟨_, k, List.mem_of_getElem? hs⟩
    · have k : D.bs.getD p.1 b0 = b0 := k
      rw [k] at hs
      have : b0.st = [] := rfl
      rw [this] at hs
      simp at hs
theorem ln_lit {w : World} {v : Value} {D : FnD} (h : FnOk' w v D) {N k : Nat} {x : List Value} (hx : (lns D.bs N)[k]? = some x) : ∃ (n a c d e : Int) (u : Bool), x = [.int .i64 n, .int .i64 a, .bool u, .int .u8 c, .int .u8 d, .int .i64 e] := by
  obtain ⟨n, _, hl, _⟩ := lns_idx hx
  obtain ⟨st, h1, h2, rfl⟩ := ln_of hl
  obtain ⟨b, hb, hs⟩ := st_mem2 h1
  obtain ⟨x0, x1, x3, x4, x6, x17, x19, d2, d18, v5, v7, v8, v9, v10, v11, v12, v13, v14, v15, v16, v20, v21, v22, v23, v24, v25, hel, _⟩ := stm_open ((h.blk b hb).skd st hs)
  refine ⟨n, x17, x19, x6, if whole st then cellI st 1 else -1, d18, ?_⟩
  have e : lnS n st = [.int .i64 n, cel st 17, cel st 18, cel st 19, cel st 6, .int .i64 (if whole st then cellI st 1 else -1)] := rfl
  have e17 : cel st 17 = .int .i64 x17 := by rw [hel]; rfl
  have e18 : cel st 18 = .bool d18 := by rw [hel]; rfl
  have e19 : cel st 19 = .int .u8 x19 := by rw [hel]; rfl
  have e6 : cel st 6 = .int .u8 x6 := by rw [hel]; rfl
  rw [e, e17, e18, e19, e6]
theorem boolRow : (Tryz.prog.info? 4).map (fun i => (i.zero, i.size, i.bytes)) = some (some (.bool false), 1, 1) := by kernel_rfl
def kilB (bs : List BlkD) (u : Bool) (a : Int) (n : Nat) : Bool := u && (setN bs n == a)
def KilE (D : FnD) (u : Bool) (a : Int) (W : World) (e : Ending) (W' : World) : Prop :=
  ∃ g, e = .returned (.tuple #[.slice (some ⟨g, 0, none⟩) (sizeN D) (sizeN D), .int .i64 0]) ∧ g < W'.heap.size ∧ (∀ j, j < sizeN D → W'.cell? ⟨g, j, none⟩ = some (.bool (kilB D.bs u a j))) ∧ Below W.heap.size W W'
theorem set_at {W : World} {b o : Nat} {v : Value} {C : Array Value} {T : TypeId} {fz : Nat × Nat} (hb : W.heap[b]? = some (.cells C T fz)) : (W.setCell ⟨b, o, none⟩ v).heap[b]? = some (.cells (C.setIfInBounds o v) T fz) := by
  simp [World.setCell, Array.getElem?_modify, hb]
set_option maxRecDepth 100000 in
set_option maxHeartbeats 8000000 in
theorem kills_c {w : World} {v : Value} {D : FnD} (h : FnOk' w v D) (hc : check.chkF D = 0) {k : Nat} {x0 a c d e : Int} {u : Bool} (hx : (lns D.bs (sizeN D))[k]? = some [.int .i64 x0, .int .i64 a, .bool u, .int .u8 c, .int .u8 d, .int .i64 e]) :
    Calls Tryz.prog 13 #[v, .int .i64 (k : Nat)] w (KilE D u a w) := by
  have hsm := small_of hc
  have hC : ChkIs w v 0 := hc ▸ chk_is h
  have hA := fun w1 (hb : Below w.heap.size w w1) => lall_c (h.frz hb.block) hsm (hC.more hb)
  have hP := fun w1 (hb : Below w.heap.size w w1) => points_c (h.frz hb.block) hsm (hC.more hb)
  have hU := fun n (hn : n < sizeN D) w1 (hb : Below w.heap.size w w1) => luses_c (h.frz hb.block) hc hn
  rw [h.eq] at hA hP hU ⊢
  have HA := Lib.hid hA
  have HP := Lib.hid hP
  have HU := Lib.hid hU
  have hN6 : sizeN D ≤ 600 := hsm.start (Nat.le_refl _)
  have hN6I : (sizeN D : Int) ≤ 600 := by omega
  have hkl := (List.getElem?_eq_some_iff.1 hx).1
  have HX := Lib.hid hx
  have hkI : (k : Int) < ((lns D.bs (sizeN D)).length : Int) := by omega
  have h0K : (0 : Int) ≤ (k : Int) := Int.natCast_nonneg _
  have hm1 : ¬ (k : Int) < 0 := by omega
  have hm2 : ¬ ((lns D.bs (sizeN D)).length : Int) ≤ (k : Int) := by omega
  have hm3 : decide ((k : Int) ≥ ((lns D.bs (sizeN D)).length : Int)) = false := decide_eq_false (by omega)
  obtain ⟨C, hCs, hCz, hmk⟩ := make_cells 33 4 (.bool false) 1 Tryz.underlying33 boolRow rfl (sizeN D) (sizeN D) (Nat.le_refl _) (by omega) (by omega)
  clear hC hA hP hU h hc hsm hx hkl
  have B0 : Box (w.alloc (.cells #[.int .i64 D.p, .bool D.u, D.lv, D.bv] tF)) w.heap.size tF (.int .i64 D.p) (.bool D.u) D.lv D.bv := Box.mk rfl
  have b0 : Below w.heap.size w (w.alloc (.cells #[.int .i64 D.p, .bool D.u, D.lv, D.bv] tF)) := (Below.refl _ _).alloc (Nat.le_refl _) _
  go_enter Tryz.func13, Tryz.ntmps13
  go_upto_region 9 with (first | (go_at_call 11; refine (HA.out _ b0).mono ?_; rintro e w1 ⟨s1, rfl, hl1⟩; have b1 := hl1.2; have B1 := B0.below b1; have b01 := b0.trans (b1.mono b0.size); obtain ⟨y0, y1, y2, y3⟩ := B1.cells; obtain ⟨Al, cl, rfl, hrl⟩ := hl1.read (by decide) (fun x hx => lns_6 hx)) | (go_at_call 31; refine (HP.out _ b01).mono ?_; rintro e w2 ⟨s2, rfl, hl2⟩))
  have b2 := hl2.2
  have b02 := b01.trans (b2.mono b01.size)
  obtain ⟨Ap, cp, rfl, _⟩ := hl2.read (by decide) (ptsL_2 D)
  obtain ⟨gl, ol, eL, hgl, hrk⟩ := RowsAt.get hrl b2 HX.out
  subst eL
  have r1 := hrk 1 _ rfl
  have r2 := hrk 2 _ rfl
  have B2 := B1.below b2
  have HB2 := Lib.hid B2
  have HB02 := Lib.hid b02
  have hgl2 : gl < w2.heap.size := Nat.lt_of_lt_of_le hgl b2.size
  have R1 := Lib.hid r1
  have R2 := Lib.hid r2
  rw [ptsL_len] at *
  have hCw : (w2.alloc (.cells C 4)).heap[w2.heap.size]? = some (.cells C 4 (0, 0)) := at_alloc rfl
  have hC0 := fun j (hj : j < sizeN D) => hCz j hj
  have HC0 := Lib.hid hC0
  clear hl1 hl2 hrl hrk B0 b0 y0 y1 y2 y3 B1 b1 b01 b2 B2 b02 r1 r2 HA HP hCz hC0
  go_wp2
  generalize hW3 : w2.alloc (.cells C 4) = w3 at *
  have b23 : Below w2.heap.size w2 w3 := by rw [← hW3]; exact (Below.refl _ _).alloc (Nat.le_refl _) _
  have s3 : w3.heap.size = w2.heap.size + 1 := by rw [← hW3]; simp
  have HC3 := Lib.hid hCw
  clear hW3 hmk hCw
  go_loopg [43] (sizeN D) (fun g s43 wr => ∃ n : Nat, s43 = .int .i64 n ∧ n ≤ sizeN D ∧ g = sizeN D - n ∧ Below w2.heap.size w2 wr ∧ ∃ Cn : Array Value, wr.heap[w2.heap.size]? = some (.cells Cn 4 (0, 0)) ∧ Cn.size = sizeN D ∧ ∀ j, j < sizeN D → Cn[j]? = some (.bool (decide (j < n) && kilB D.bs u a j)))
  case atStart => exact ⟨0, rfl, Nat.zero_le _, rfl, b23, C, HC3.out, hCs, fun j hj => by rw [HC0.out j hj]; simp⟩
  case round =>
    obtain ⟨n, rfl, hn, rfl, hbel, Cn, hCn, hsz, hval⟩ := hrel
    obtain ⟨t0, t1, t2, t3⟩ := (HB2.out.below hbel).cells
    have h0N : (0 : Int) ≤ (n : Int) := Int.natCast_nonneg _
    rcases Nat.lt_or_ge n (sizeN D) with hlt | hge
    · have hltI : (n : Int) < (sizeN D : Int) := by omega
      have hbw := HB02.out.trans (hbel.mono HB02.out.size)
      have HBEL := Lib.hid hbel
      have HBW := Lib.hid hbw
      have HCN := Lib.hid hCn
      have HVAL := Lib.hid hval
      clear hbel hbw hCn hval
      go_upto_region 16 with (go_at_call 26; refine (HU.out n hlt _ HBW.out).mono ?_; rintro e w4 ⟨m, rfl, b4⟩)
      have h24 := HBEL.out.trans (b4.mono HBEL.out.size)
      have hg2 := (Array.getElem?_eq_some_iff.1 HCN.out).1
      have hC4 := (b4.block w2.heap.size hg2).trans HCN.out
      have k1 := (h24.cell (p := ⟨gl, ol + k * 6 + 1, none⟩) hgl2).trans R1.out
      have k2 := (h24.cell (p := ⟨gl, ol + k * 6 + 2, none⟩) hgl2).trans R2.out
      have cn : w4.cell? ⟨w2.heap.size, n, none⟩ = some (.bool (decide (n < n) && kilB D.bs u a n)) := by
        rw [cell_of_row w4 w2.heap.size n Cn 4 (0, 0) hC4]
        exact HVAL.out n hlt
      have fn := frozen_none hC4 n
      have HC4 := Lib.hid hC4
      have H24 := Lib.hid h24
      have hkb : kilB D.bs u a n = (u && (setN D.bs n == a)) := rfl
      have HKB := Lib.hid hkb
      clear b4 h24 hC4 hkb t0 t1 t2 t3
      have fin : ∀ (val : Bool), kilB D.bs u a n = val → ∃ Cn' : Array Value, (w4.setCell ⟨w2.heap.size, n, none⟩ (.bool val)).heap[w2.heap.size]? = some (.cells Cn' 4 (0, 0)) ∧ Cn'.size = sizeN D ∧ ∀ j, j < sizeN D → Cn'[j]? = some (.bool (decide (j < n + 1) && kilB D.bs u a j)) := fun val hv => by
        refine ⟨_, set_at HC4.out, by simp [hsz], fun j hj => ?_⟩
        rw [Array.getElem?_setIfInBounds]
        by_cases hjn : n = j
        · subst hjn
          rw [if_pos rfl, if_pos (by rw [hsz]; exact hj), ← hv]
          simp
        · rw [if_neg hjn, HVAL.out j hj]
          have : decide (j < n) = decide (j < n + 1) := by rw [decide_eq_decide]; omega
          rw [this]
      have HFIN := Lib.hid fin
      clear fin
      cases u with
      | false =>
        go_wp2
        go_roundg (sizeN D - (n + 1))
        case measure => omega
        case rel => exact ⟨n + 1, by simp, by omega, rfl, H24.out.setCell (Nat.le_refl _) _, HFIN.out false (by rw [HKB.out]; rfl)⟩
      | true =>
        cases hs : (setN D.bs n == a) with
        | true =>
          have HS := Lib.hid hs
          go_wp2
          go_roundg (sizeN D - (n + 1))
          case measure => omega
          case rel => exact ⟨n + 1, by simp, by omega, rfl, H24.out.setCell (Nat.le_refl _) _, HFIN.out true (by rw [HKB.out, HS.out]; rfl)⟩
        | false =>
          have HS := Lib.hid hs
          go_wp2
          go_roundg (sizeN D - (n + 1))
          case measure => omega
          case rel => exact ⟨n + 1, by simp, by omega, rfl, H24.out.setCell (Nat.le_refl _) _, HFIN.out false (by rw [HKB.out, HS.out]; rfl)⟩
    · obtain rfl : n = sizeN D := by omega
      go_wp2
      go_ret2
      refine ⟨w2.heap.size, rfl, (Array.getElem?_eq_some_iff.1 hCn).1, fun j hj => ?_, HB02.out.trans (hbel.mono HB02.out.size)⟩
      rw [cell_of_row wr w2.heap.size j Cn 4 (0, 0) hCn, hval j hj, decide_eq_true hj, Bool.true_and]
end Go.Proofs.YthdcahkedlijpaaGreat.loan
