/- pawnshopref19.Points, by its contract: the points that borrow. -/
import Derived.Test.YthdcahkedlijpaaGreatLoanG
namespace Go.Proofs.YthdcahkedlijpaaGreat.loan
open Go.RowKit Go.Proofs.YthdcahkedlijpaaGreat Go.Proofs.YthdcahkedlijpaaGreat.Am
set_option linter.unusedVariables false
def refN (bs : List BlkD) (n : Nat) : Option Nat := (stN bs n).bind fun el => if isRef el then some n else none
def refs (bs : List BlkD) (n : Nat) : List Nat := (List.range n).filterMap (refN bs)
theorem refs_yes {bs : List BlkD} {n : Nat} {el : List Value} (h : stN bs n = some el) (hr : isRef el = true) : refs bs (n + 1) = refs bs n ++ [n] := by
 have : refN bs n = some n := by unfold refN; rw [h]; show (if isRef el = true then _ else _) = _; rw [if_pos hr]
 unfold refs
 rw [List.range_succ, List.filterMap_append]
 simp [this]
theorem refs_no {bs : List BlkD} {n : Nat} (h : refN bs n = none) : refs bs (n + 1) = refs bs n := by
 unfold refs
 rw [List.range_succ, List.filterMap_append]
 simp [h]
theorem refN_no {bs : List BlkD} {n : Nat} {el : List Value} (h : stN bs n = some el) (hr : isRef el = false) : refN bs n = none := by
 unfold refN; rw [h]; show (if isRef el = true then _ else _) = _; rw [hr]; rfl
theorem refN_none {bs : List BlkD} {n : Nat} (h : stN bs n = none) : refN bs n = none := by unfold refN; rw [h]; rfl
theorem refs_len {bs : List BlkD} (n : Nat) : (refs bs n).length ≤ n := by
 have := List.length_filterMap_le (refN bs) (List.range n)
 simpa [refs] using this
theorem pick_two {α β γ : Type} {f : α → Option β} {g : α → Option γ} (hfg : ∀ a, (f a).isSome = (g a).isSome) : ∀ (l : List α) (m : Nat) {x : β}, (l.filterMap f)[m]? = some x → ∃ a ∈ l, f a = some x ∧ (l.filterMap g)[m]? = g a
 | [], m, x, h => by simp at h
 | a :: l, m, x, h => by
  cases hf : f a with
  | none =>
   have hg : g a = none := by have := hfg a; rw [hf] at this; simpa using this.symm
   rw [List.filterMap_cons_none hf] at h
   obtain ⟨b, hb, h1, h2⟩ := pick_two hfg l m h
   exact ⟨b, List.mem_cons_of_mem _ hb, h1, by rw [List.filterMap_cons_none hg]; exact h2⟩
  | some y =>
   obtain ⟨z, hg⟩ : ∃ z, g a = some z := by have := hfg a; rw [hf] at this; exact Option.isSome_iff_exists.1 this.symm
   rw [List.filterMap_cons_some hf] at h
   cases m with
   | zero => exact ⟨a, List.mem_cons_self, hf.trans (by simpa using h), by rw [List.filterMap_cons_some hg, hg]; rfl⟩
   | succ m =>
    rw [List.getElem?_cons_succ] at h
    obtain ⟨b, hb, h1, h2⟩ := pick_two hfg l m h
    exact ⟨b, List.mem_cons_of_mem _ hb, h1, by rw [List.filterMap_cons_some hg, List.getElem?_cons_succ]; exact h2⟩
theorem refs_get {bs : List BlkD} {N m n : Nat} (h : (refs bs N)[m]? = some n) : n < N ∧ ∃ el, stN bs n = some el ∧ isRef el = true ∧ (lns bs N)[m]? = some (lnS n el) := by
 obtain ⟨a, ha, h1, h2⟩ := pick_two (f := refN bs) (g := lnN bs) (fun a => by unfold refN lnN; cases stN bs a with | none => rfl | some el => simp only [Option.bind_some]; cases isRef el <;> rfl) _ _ h
 have h1' := h1
 unfold refN at h1'
 cases hs : stN bs a with
 | none => rw [hs] at h1'; simp at h1'
 | some el =>
  rw [hs, Option.bind_some] at h1'
  by_cases hr : isRef el = true
  ·rw [if_pos hr] at h1'
   cases h1'
   exact ⟨List.mem_range.1 ha, el, hs, hr, by unfold lns; rw [h2, ln_some hs hr]⟩
  ·rw [if_neg hr] at h1'; simp at h1'
theorem refs_lns (bs : List BlkD) (N : Nat) : (refs bs N).length = (lns bs N).length := by
 induction N with
 | zero => rfl
 | succ N ih =>
  cases hs : stN bs N with
  | none => rw [refs_no (refN_none hs), lns_none (ln_none hs), ih]
  | some el =>
   cases hr : isRef el with
   | true => rw [refs_yes hs hr, lns_some (ln_some hs hr), List.length_append, List.length_append, ih]; rfl
   | false => rw [refs_no (refN_no hs hr), lns_none (ln_no hs hr), ih]
def NewP (D : FnD) (W : World) (e : Ending) (W' : World) : Prop := ∃ s, e = .returned s ∧ W'.ownsRow W.heap.size 3 1 s (refs D.bs (sizeN D)).length ((refs D.bs (sizeN D)).map fun n : Nat => Value.int .i64 (n : Int)) ∧ Below W.heap.size W W'
set_option maxRecDepth 100000 in
set_option maxHeartbeats 8000000 in
theorem points19_c {w : World} {v : Value} {D : FnD} (h : FnOk' w v D) (hs : Small D) : Calls Tryz.prog 47 #[v] w (NewP D w) := by
 have hS := fun n (hn : n < sizeN D) w1 (hb : Below w.heap.size w w1) => stmt_c (h.frz hb.block) hs hn
 have hZ := fun w1 (hb : Below w.heap.size w w1) => size_c (h.frz hb.block) hs
 have hN6 : sizeN D ≤ 600 := hs.start (Nat.le_refl _)
 have hN6I : (sizeN D : Int) ≤ 600 := by omega
 have hk : ∀ n el, stN D.bs n = some el → All2 Kd.ok kS26 el := fun n el hel => by
  obtain ⟨b, hb, hm⟩ := st_mem2 hel
  exact (h.blk b hb).skd el hm
 rw [h.eq] at hS hZ ⊢
 have HS := Lib.hid hS
 have HZ := Lib.hid hZ
 have HK := Lib.hid hk
 clear hS hZ hk h hs
 have B0 : Box (w.alloc (.cells #[.int .i64 D.p, .bool D.u, D.lv, D.bv] tF)) w.heap.size tF (.int .i64 D.p) (.bool D.u) D.lv D.bv := Box.mk rfl
 have b0 : Below w.heap.size w (w.alloc (.cells #[.int .i64 D.p, .bool D.u, D.lv, D.bv] tF)) := (Below.refl _ _).alloc (Nat.le_refl _) _
 go_enter Tryz.func47, Tryz.ntmps47
 go_upto_region 3 with fail
 generalize w.alloc (.cells #[.int .i64 D.p, .bool D.u, D.lv, D.bv] tF) = w1 at *
 have HB0 := Lib.hid b0
 have HBX := Lib.hid B0
 clear b0 B0
 go_loopg [3, 4] (sizeN D) (fun g s3 s4 wr => ∃ n : Nat, s4 = .int .i64 n ∧ n ≤ sizeN D ∧ g = sizeN D - n ∧ wr.ownsRow w1.heap.size 3 1 s3 (refs D.bs n).length ((refs D.bs n).map fun n : Nat => Value.int .i64 (n : Int)) ∧ Below w1.heap.size w1 wr)
 case atStart => exact ⟨0, rfl, Nat.zero_le _, rfl, World.ownsRow_nil _ _ _ _, Below.refl _ _⟩
 case round =>
  obtain ⟨n, rfl, hn, rfl, hown, hbel⟩ := hrel
  obtain ⟨t0, t1, t2, t3⟩ := (HBX.out.below hbel).cells
  have h0N : (0 : Int) ≤ (n : Int) := Int.natCast_nonneg _
  have hbw := HB0.out.trans (hbel.mono HB0.out.size)
  have HBW := Lib.hid hbw
  have HBEL := Lib.hid hbel
  have HOWN := Lib.hid hown
  have hll := refs_len (bs := D.bs) n
  clear hbw hbel hown
  rcases Nat.lt_or_ge n (sizeN D) with hlt | hge
  ·have hltI : (n : Int) < (sizeN D : Int) := by omega
   go_upto_region 5 with (go_at_call 24; refine (HZ.out _ HBW.out).mono ?_; rintro e w2 ⟨rfl, b2⟩)
   have HB2 := Lib.hid (HBEL.out.trans (b2.mono HBEL.out.size))
   have HO2 := Lib.hid (owns_below HOWN.out b2)
   have HBW2 := Lib.hid (HBW.out.trans (b2.mono HBW.out.size))
   clear b2 t0 t1 t2 t3
   obtain ⟨t0, t1, t2, t3⟩ := (HBX.out.below HB2.out).cells
   have hsv := HS.out n hlt _ HBW2.out
   unfold stV at hsv
   cases hst : stN D.bs n with
   | none =>
    rw [hst] at hsv
    dsimp only at hsv
    have h26 : zeroS.length = 26 := rfl
    have h1s : ∀ u ∈ zeroS, u.oneCell' = true := by unfold zeroS; simp [Value.oneCell']
    have HRN := Lib.hid (refs_no (refN_none hst))
    generalize zeroS = el at *
    have hsto : ∀ (W : World) (H : Nat), W.heap.size = H → (storeCells ⟨H, 0, none⟩ el).run Tryz.prog (W.alloc (.cells #[.int .u8 0, .int .i64 0, .bool false, .int .u8 0, .int .u8 0, .int .u8 0, .int .u8 0, .int .u8 0, .int .i64 0, .int .i64 0, .bool false, .int .u8 0, .int .u8 0, .int .i64 0, .int .i64 0, .bool false, .int .u8 0, .int .i64 0, .bool false, .int .u8 0, .int .u8 0, .int .i64 0, .int .i64 0, .bool false, .int .u8 0, .int .i64 0] 51)) = .ok () (W.alloc (.cells el.toArray 51)) := fun W H hH => run_store_fresh hH (by rw [h26]; rfl) h1s
    have HST := Lib.hid hsto
    have HSV := Lib.hid hsv
    clear hsto h1s hsv hst
    go_wp2_with (go_at_call 25; refine HSV.out.mono ?_; rintro e w3 ⟨rfl, b3⟩; have hq := HST.out w3 _ rfl)
    go_roundg (sizeN D - (n + 1))
    case measure => omega
    case rel =>
     have c3 := HB2.out.trans (b3.mono HB2.out.size)
     exact ⟨n + 1, by simp, by omega, rfl, by rw [HRN.out]; exact owns_below (owns_below HO2.out b3) ((Below.refl _ _).alloc (Nat.le_refl _) _), c3.alloc c3.size _⟩
   | some el =>
    rw [hst] at hsv
    dsimp only at hsv
    have hkk := HK.out n el hst
    have h26 : el.length = 26 := hkk.len.symm
    have h1s := stm_ones hkk
    have hsto : ∀ (W : World) (H : Nat), W.heap.size = H → (storeCells ⟨H, 0, none⟩ el).run Tryz.prog (W.alloc (.cells #[.int .u8 0, .int .i64 0, .bool false, .int .u8 0, .int .u8 0, .int .u8 0, .int .u8 0, .int .u8 0, .int .i64 0, .int .i64 0, .bool false, .int .u8 0, .int .u8 0, .int .i64 0, .int .i64 0, .bool false, .int .u8 0, .int .i64 0, .bool false, .int .u8 0, .int .u8 0, .int .i64 0, .int .i64 0, .bool false, .int .u8 0, .int .i64 0] 51)) = .ok () (W.alloc (.cells el.toArray 51)) := fun W H hH => run_store_fresh hH (by rw [h26]; rfl) h1s
    have HST := Lib.hid hsto
    have HSV := Lib.hid hsv
    obtain ⟨x0, x1, x3, x4, x6, x17, x19, d2, d18, v5, v7, v8, v9, v10, v11, v12, v13, v14, v15, v16, v20, v21, v22, v23, v24, v25, hel, hone⟩ := stm_open hkk
    have hir : isRef el = (decide (x0 = 1) && decide (x4 = 4)) := by rw [hel]; rfl
    have HIR := Lib.hid hir
    have HS2 := Lib.hid hst
    have HEL := Lib.hid hel
    clear hsto h1s hsv hst hkk hone hir hel
    go_upto_region 6 with (go_at_call 25; refine HSV.out.mono ?_; rintro e w3 ⟨rfl, b3⟩; have hq := HST.out w3 _ rfl)
    generalize hwb : (w3.alloc (.cells el.toArray tS)) = wb
    have hbb : Below w3.heap.size w3 wb := by rw [← hwb]; exact (Below.refl _ _).alloc (Nat.le_refl _) _
    have e0 : wb.cell? ⟨w3.heap.size, 0, none⟩ = some (.int .u8 x0) := by rw [← hwb, cell_of_row _ w3.heap.size 0 _ tS (0, 0) (at_alloc rfl), HEL.out]; rfl
    have e4 : wb.cell? ⟨w3.heap.size, 4, none⟩ = some (.int .u8 x4) := by rw [← hwb, cell_of_row _ w3.heap.size 4 _ tS (0, 0) (at_alloc rfl), HEL.out]; rfl
    have HO3 := Lib.hid (owns_below (owns_below HO2.out b3) hbb)
    have hb3 := HB2.out.trans (b3.mono HB2.out.size)
    have HB3 := Lib.hid (hb3.trans (hbb.mono hb3.size))
    clear hwb hq hbb hb3 b3 t0 t1 t2 t3
    by_cases h0 : x0 = 1
    ·subst h0
     by_cases h4 : x4 = 4
     ·subst h4
      have HRN := Lib.hid (refs_yes HS2.out HIR.out)
      go_wp2_with (at_builtin; refine wpList_append1 rfl _ _ 69 rfl w1.heap.size 3 (.int .i64 0) 8 Tryz.underlying69 introw rfl _ _ _ rfl HO3.out (.int .i64 n) rfl rfl (by omega) (by omega) HB3.out HB3.out.size ?_; intro v1 w5 hown1 hbel1)
      go_roundg (sizeN D - (n + 1))
      case measure => omega
      case rel => exact ⟨n + 1, by simp, by omega, rfl, by rw [HRN.out, List.length_append, List.map_append]; simpa using hown1, hbel1⟩
     ·have n4 : (x4 == 4) = false := by simpa using h4
      have HRN := Lib.hid (refs_no (refN_no HS2.out (by rw [HIR.out, decide_eq_false h4]; rfl)))
      go_wp2
      go_roundg (sizeN D - (n + 1))
      case measure => omega
      case rel => exact ⟨n + 1, by simp, by omega, rfl, by rw [HRN.out]; exact HO3.out, HB3.out⟩
    ·have n0 : (x0 == 1) = false := by simpa using h0
     have HRN := Lib.hid (refs_no (refN_no HS2.out (by rw [HIR.out, decide_eq_false h0]; rfl)))
     go_wp2
     go_roundg (sizeN D - (n + 1))
     case measure => omega
     case rel => exact ⟨n + 1, by simp, by omega, rfl, by rw [HRN.out]; exact HO3.out, HB3.out⟩
  ·obtain rfl : n = sizeN D := by omega
   go_wp2_with (go_at_call 24; refine (HZ.out _ HBW.out).mono ?_; rintro e w2 ⟨rfl, b2⟩)
   go_ret
   exact ⟨_, rfl, owns_base (owns_below HOWN.out b2) HB0.out.size, HBW.out.trans (b2.mono HBW.out.size)⟩
end Go.Proofs.YthdcahkedlijpaaGreat.loan
