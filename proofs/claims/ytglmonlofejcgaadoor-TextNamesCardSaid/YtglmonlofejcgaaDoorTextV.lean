/- stmt.Text: the texts of statements. text.Func: the text of a sound function with a number; else why not. What text.Func and the reference's Func call: the texts of numbers, types, statements, jumps. pawnshopref07.Great and Twin, of any function that is not great; what a copy keeps. -/
import Derived.Test.YtglmonlofejcgaaDoorTexts5C
import Derived.Test.YtglmonlofejcgaaDoorTextFn
import Derived.Test.YtglmonlofejcgaaDoorTextX
import Derived.Test.YtglmonlofejcgaaDoorOwn
namespace Go.Proofs.YtglmonlofejcgaaDoor.Am
open Go.RowKit
set_option maxRecDepth 100000
theorem tstA_ts1 : (ts1T.leaves ts1L).all goodT_tstA = true := by kernel_rfl
theorem tstA_ts4 : (ts4T.leaves ts4L).all goodT_tstA = true := by kernel_rfl
theorem tstA_ts8 : (ts8T.leaves ts8L).all goodT_tstA = true := by kernel_rfl
theorem tstA_ts10 : (ts10T.leaves ts10L).all goodT_tstA = true := by kernel_rfl
theorem tstA_ts13 : (ts13T.leaves ts13L).all goodT_tstA = true := by kernel_rfl
theorem tstA_ts17 : (ts17T.leaves ts17L).all goodT_tstA = true := by kernel_rfl
theorem tstA_ts19 : (ts19T.leaves ts19L).all goodT_tstA = true := by kernel_rfl
theorem tstA_ts20 : (ts20T.leaves ts20L).all goodT_tstA = true := by kernel_rfl
theorem tstA_ts21 : (ts21T.leaves ts21L).all goodT_tstA = true := by kernel_rfl
theorem tstA_ts24 : (ts24T.leaves ts24L).all goodT_tstA = true := by kernel_rfl
theorem tstA_ts27 : (ts27T.leaves ts27L).all goodT_tstA = true := by kernel_rfl
theorem tstA_ts31 : (ts31T.leaves ts31L).all goodT_tstA = true := by kernel_rfl
theorem tstA_ts33 : (ts33T.leaves ts33L).all goodT_tstA = true := by kernel_rfl
theorem tstA_ts34 : (ts34T.leaves ts34L).all goodT_tstA = true := by kernel_rfl
theorem tstA_ts35 : (ts35T.leaves ts35L).all goodT_tstA = true := by kernel_rfl
theorem tstA_ts36 : (ts36T.leaves ts36L).all goodT_tstA = true := by kernel_rfl
theorem tstA_ts37 : (ts37T.leaves ts37L).all goodT_tstA = true := by kernel_rfl
theorem tstA_ts40 : (ts40T.leaves ts40L).all goodT_tstA = true := by kernel_rfl
theorem tstA_ts43 : (ts43T.leaves ts43L).all goodT_tstA = true := by kernel_rfl
theorem tstA_ts47 : (ts47T.leaves ts47L).all goodT_tstA = true := by kernel_rfl
theorem tstA_ts49 : (ts49T.leaves ts49L).all goodT_tstA = true := by kernel_rfl
theorem tstA_ts50 : (ts50T.leaves ts50L).all goodT_tstA = true := by kernel_rfl
theorem tstA_ts51 : (ts51T.leaves ts51L).all goodT_tstA = true := by kernel_rfl
theorem tstA_ts52 : (ts52T.leaves ts52L).all goodT_tstA = true := by kernel_rfl
theorem tstA_ts53 : (ts53T.leaves ts53L).all goodT_tstA = true := by kernel_rfl
theorem tstA_ts54 : (ts54T.leaves ts54L).all goodT_tstA = true := by kernel_rfl
theorem tstA_ts57 : (ts57T.leaves ts57L).all goodT_tstA = true := by kernel_rfl
theorem tstA_ts59 : (ts59T.leaves ts59L).all goodT_tstA = true := by kernel_rfl
theorem tstA_ts61 : (ts61T.leaves ts61L).all goodT_tstA = true := by kernel_rfl
theorem tstA_ts62 : (ts62T.leaves ts62L).all goodT_tstA = true := by kernel_rfl
theorem tstA_ts63 : (ts63T.leaves ts63L).all goodT_tstA = true := by kernel_rfl
theorem tstA_ts64 : (ts64T.leaves ts64L).all goodT_tstA = true := by kernel_rfl
theorem tstA_ts65 : (ts65T.leaves ts65L).all goodT_tstA = true := by kernel_rfl
theorem tstA_ts67 : (ts67T.leaves ts67L).all goodT_tstA = true := by kernel_rfl
theorem tstA_ts69 : (ts69T.leaves ts69L).all goodT_tstA = true := by kernel_rfl
theorem tstA_ts70 : (ts70T.leaves ts70L).all goodT_tstA = true := by kernel_rfl
theorem tstA_ts18 : (ts18T.leaves ts18L).all goodT_tstA = true := by
 have e : ts18T.leaves ts18L = ts19T.leaves ts19L ++ ts20T.leaves ts20L := rfl
 rw [e]
 simp only [List.all_append, tstA_ts19, tstA_ts20, Bool.and_self]
theorem tstA_ts16 : (ts16T.leaves ts16L).all goodT_tstA = true := by
 have e : ts16T.leaves ts16L = ts17T.leaves ts17L ++ ts18T.leaves ts18L := rfl
 rw [e]
 simp only [List.all_append, tstA_ts17, tstA_ts18, Bool.and_self]
theorem tstA_ts15 : (ts15T.leaves ts15L).all goodT_tstA = true := by
 have e : ts15T.leaves ts15L = ts16T.leaves ts16L ++ ts21T.leaves ts21L := rfl
 rw [e]
 simp only [List.all_append, tstA_ts16, tstA_ts21, Bool.and_self]
theorem tstA_ts32 : (ts32T.leaves ts32L).all goodT_tstA = true := by
 have e : ts32T.leaves ts32L = ts33T.leaves ts33L ++ ts34T.leaves ts34L := rfl
 rw [e]
 simp only [List.all_append, tstA_ts33, tstA_ts34, Bool.and_self]
theorem tstA_ts30 : (ts30T.leaves ts30L).all goodT_tstA = true := by
 have e : ts30T.leaves ts30L = ts31T.leaves ts31L ++ ts32T.leaves ts32L := rfl
 rw [e]
 simp only [List.all_append, tstA_ts31, tstA_ts32, Bool.and_self]
theorem tstA_ts29 : (ts29T.leaves ts29L).all goodT_tstA = true := by
 have e : ts29T.leaves ts29L = ts30T.leaves ts30L ++ ts35T.leaves ts35L := rfl
 rw [e]
 simp only [List.all_append, tstA_ts30, tstA_ts35, Bool.and_self]
theorem tstA_ts28 : (ts28T.leaves ts28L).all goodT_tstA = true := by
 have e : ts28T.leaves ts28L = ts29T.leaves ts29L ++ ts36T.leaves ts36L := rfl
 rw [e]
 simp only [List.all_append, tstA_ts29, tstA_ts36, Bool.and_self]
theorem tstA_ts26 : (ts26T.leaves ts26L).all goodT_tstA = true := by
 have e : ts26T.leaves ts26L = ts27T.leaves ts27L ++ ts28T.leaves ts28L := rfl
 rw [e]
 simp only [List.all_append, tstA_ts27, tstA_ts28, Bool.and_self]
theorem tstA_ts25 : (ts25T.leaves ts25L).all goodT_tstA = true := by
 have e : ts25T.leaves ts25L = ts26T.leaves ts26L ++ ts37T.leaves ts37L := rfl
 rw [e]
 simp only [List.all_append, tstA_ts26, tstA_ts37, Bool.and_self]
theorem tstA_ts23 : (ts23T.leaves ts23L).all goodT_tstA = true := by
 have e : ts23T.leaves ts23L = ts24T.leaves ts24L ++ ts25T.leaves ts25L := rfl
 rw [e]
 simp only [List.all_append, tstA_ts24, tstA_ts25, Bool.and_self]
theorem tstA_ts48 : (ts48T.leaves ts48L).all goodT_tstA = true := by
 have e : ts48T.leaves ts48L = ts49T.leaves ts49L ++ ts50T.leaves ts50L := rfl
 rw [e]
 simp only [List.all_append, tstA_ts49, tstA_ts50, Bool.and_self]
theorem tstA_ts46 : (ts46T.leaves ts46L).all goodT_tstA = true := by
 have e : ts46T.leaves ts46L = ts47T.leaves ts47L ++ ts48T.leaves ts48L := rfl
 rw [e]
 simp only [List.all_append, tstA_ts47, tstA_ts48, Bool.and_self]
theorem tstA_ts45 : (ts45T.leaves ts45L).all goodT_tstA = true := by
 have e : ts45T.leaves ts45L = ts46T.leaves ts46L ++ ts51T.leaves ts51L := rfl
 rw [e]
 simp only [List.all_append, tstA_ts46, tstA_ts51, Bool.and_self]
theorem tstA_ts44 : (ts44T.leaves ts44L).all goodT_tstA = true := by
 have e : ts44T.leaves ts44L = ts45T.leaves ts45L ++ ts52T.leaves ts52L := rfl
 rw [e]
 simp only [List.all_append, tstA_ts45, tstA_ts52, Bool.and_self]
theorem tstA_ts42 : (ts42T.leaves ts42L).all goodT_tstA = true := by
 have e : ts42T.leaves ts42L = ts43T.leaves ts43L ++ ts44T.leaves ts44L := rfl
 rw [e]
 simp only [List.all_append, tstA_ts43, tstA_ts44, Bool.and_self]
theorem tstA_ts41 : (ts41T.leaves ts41L).all goodT_tstA = true := by
 have e : ts41T.leaves ts41L = ts42T.leaves ts42L ++ ts53T.leaves ts53L := rfl
 rw [e]
 simp only [List.all_append, tstA_ts42, tstA_ts53, Bool.and_self]
theorem tstA_ts39 : (ts39T.leaves ts39L).all goodT_tstA = true := by
 have e : ts39T.leaves ts39L = ts40T.leaves ts40L ++ ts41T.leaves ts41L := rfl
 rw [e]
 simp only [List.all_append, tstA_ts40, tstA_ts41, Bool.and_self]
theorem tstA_ts38 : (ts38T.leaves ts38L).all goodT_tstA = true := by
 have e : ts38T.leaves ts38L = ts39T.leaves ts39L ++ ts54T.leaves ts54L := rfl
 rw [e]
 simp only [List.all_append, tstA_ts39, tstA_ts54, Bool.and_self]
theorem tstA_ts22 : (ts22T.leaves ts22L).all goodT_tstA = true := by
 have e : ts22T.leaves ts22L = ts23T.leaves ts23L ++ ts38T.leaves ts38L := rfl
 rw [e]
 simp only [List.all_append, tstA_ts23, tstA_ts38, Bool.and_self]
theorem tstA_ts14 : (ts14T.leaves ts14L).all goodT_tstA = true := by
 have e : ts14T.leaves ts14L = ts15T.leaves ts15L ++ ts22T.leaves ts22L := rfl
 rw [e]
 simp only [List.all_append, tstA_ts15, tstA_ts22, Bool.and_self]
theorem tstA_ts12 : (ts12T.leaves ts12L).all goodT_tstA = true := by
 have e : ts12T.leaves ts12L = ts13T.leaves ts13L ++ ts14T.leaves ts14L := rfl
 rw [e]
 simp only [List.all_append, tstA_ts13, tstA_ts14, Bool.and_self]
theorem tstA_ts60 : (ts60T.leaves ts60L).all goodT_tstA = true := by
 have e : ts60T.leaves ts60L = ts61T.leaves ts61L ++ ts62T.leaves ts62L := rfl
 rw [e]
 simp only [List.all_append, tstA_ts61, tstA_ts62, Bool.and_self]
theorem tstA_ts58 : (ts58T.leaves ts58L).all goodT_tstA = true := by
 have e : ts58T.leaves ts58L = ts59T.leaves ts59L ++ ts60T.leaves ts60L := rfl
 rw [e]
 simp only [List.all_append, tstA_ts59, tstA_ts60, Bool.and_self]
theorem tstA_ts56 : (ts56T.leaves ts56L).all goodT_tstA = true := by
 have e : ts56T.leaves ts56L = ts57T.leaves ts57L ++ ts58T.leaves ts58L := rfl
 rw [e]
 simp only [List.all_append, tstA_ts57, tstA_ts58, Bool.and_self]
theorem tstA_ts55 : (ts55T.leaves ts55L).all goodT_tstA = true := by
 have e : ts55T.leaves ts55L = ts56T.leaves ts56L ++ ts63T.leaves ts63L := rfl
 rw [e]
 simp only [List.all_append, tstA_ts56, tstA_ts63, Bool.and_self]
theorem tstA_ts11 : (ts11T.leaves ts11L).all goodT_tstA = true := by
 have e : ts11T.leaves ts11L = ts12T.leaves ts12L ++ ts55T.leaves ts55L := rfl
 rw [e]
 simp only [List.all_append, tstA_ts12, tstA_ts55, Bool.and_self]
theorem tstA_ts9 : (ts9T.leaves ts9L).all goodT_tstA = true := by
 have e : ts9T.leaves ts9L = ts10T.leaves ts10L ++ ts11T.leaves ts11L := rfl
 rw [e]
 simp only [List.all_append, tstA_ts10, tstA_ts11, Bool.and_self]
theorem tstA_ts7 : (ts7T.leaves ts7L).all goodT_tstA = true := by
 have e : ts7T.leaves ts7L = ts8T.leaves ts8L ++ ts9T.leaves ts9L := rfl
 rw [e]
 simp only [List.all_append, tstA_ts8, tstA_ts9, Bool.and_self]
theorem tstA_ts6 : (ts6T.leaves ts6L).all goodT_tstA = true := by
 have e : ts6T.leaves ts6L = ts7T.leaves ts7L ++ ts64T.leaves ts64L := rfl
 rw [e]
 simp only [List.all_append, tstA_ts7, tstA_ts64, Bool.and_self]
theorem tstA_ts5 : (ts5T.leaves ts5L).all goodT_tstA = true := by
 have e : ts5T.leaves ts5L = ts6T.leaves ts6L ++ ts65T.leaves ts65L := rfl
 rw [e]
 simp only [List.all_append, tstA_ts6, tstA_ts65, Bool.and_self]
theorem tstA_ts3 : (ts3T.leaves ts3L).all goodT_tstA = true := by
 have e : ts3T.leaves ts3L = ts4T.leaves ts4L ++ ts5T.leaves ts5L := rfl
 rw [e]
 simp only [List.all_append, tstA_ts4, tstA_ts5, Bool.and_self]
theorem tstA_ts68 : (ts68T.leaves ts68L).all goodT_tstA = true := by
 have e : ts68T.leaves ts68L = ts69T.leaves ts69L ++ ts70T.leaves ts70L := rfl
 rw [e]
 simp only [List.all_append, tstA_ts69, tstA_ts70, Bool.and_self]
theorem tstA_ts66 : (ts66T.leaves ts66L).all goodT_tstA = true := by
 have e : ts66T.leaves ts66L = ts67T.leaves ts67L ++ ts68T.leaves ts68L := rfl
 rw [e]
 simp only [List.all_append, tstA_ts67, tstA_ts68, Bool.and_self]
theorem tstA_ts2 : (ts2T.leaves ts2L).all goodT_tstA = true := by
 have e : ts2T.leaves ts2L = ts3T.leaves ts3L ++ ts66T.leaves ts66L := rfl
 rw [e]
 simp only [List.all_append, tstA_ts3, tstA_ts66, Bool.and_self]
theorem tstA_ts0 : (ts0T.leaves ts0L).all goodT_tstA = true := by
 have e : ts0T.leaves ts0L = ts1T.leaves ts1L ++ ts2T.leaves ts2L := rfl
 rw [e]
 simp only [List.all_append, tstA_ts1, tstA_ts2, Bool.and_self]
theorem tstA_texts : Texts Tryd.prog TabOk 15 kSt okStE (fun us => stT (stOf us)) vS2 := texts_ofS mS2_ok (pls := tsP) (fun L xs => stX true kSt tsP L xs) (fun b0 L r xs us l hL d e ha h => @stX_ok b0 r L kSt tsP xs us hL d e ha _ l h) (by kernel_rfl) (sp := ts0T) tstA_ts0
end Go.Proofs.YtglmonlofejcgaaDoor.Am
namespace Go.Proofs.YtglmonlofejcgaaDoor.txt
open Go.RowKit Go.Proofs.YtglmonlofejcgaaDoor Go.Proofs.YtglmonlofejcgaaDoor.Am Go.Proofs.YtglmonlofejcgaaDoor.loan Go.Proofs.YtglmonlofejcgaaDoor.bld
set_option linter.unusedVariables false
theorem new_bld (w : World) : Bld tB tU w.heap.size [] (w.alloc (.cells #[.pointer none, .slice none 0 0] tB)) := Lib.IsBuilderF.of (Lib.fresh_isBuilder tB tU w)
def AnsT (l : List UInt8) (x : Int) (W : World) (e : Ending) (W' : World) : Prop := e = .returned (.tuple #[.string ⟨l.toArray⟩, .int .i64 x]) ∧ Below W.heap.size W W'
def ChkT (f : FuncId) (w : World) (v : Value) (x : Int) : Prop := ∀ w1, Below w.heap.size w w1 → Calls Tryd.prog f #[v] w1 (bld.Ans w1 (.int .i64 x))
set_option maxHeartbeats 4000000 in
set_option maxRecDepth 100000 in
theorem func_bad {w : World} {v : Value} {D : FnD} (h : FnOk' w v D) {x n : Int} (hx : x ≠ 0) (hC : ChkT 23 w v x) : Calls Tryd.prog 9 #[v, .int .i64 n] w (AnsT [] x w) := by
 unfold ChkT at hC
 rw [h.eq] at hC ⊢
 have b0 : Below w.heap.size w (w.alloc (.cells #[.int .i64 D.p, .bool D.u, D.lv, D.bv] tFn)) := (Below.refl _ _).alloc (Nat.le_refl _) _
 have hx' : (x != 0) = true := by simpa using hx
 have HC := Lib.hid hC
 clear hC h
 go_enter Tryd.func9, Tryd.ntmps9
 go_wp2_with (go_at_call 23; refine (HC.out _ b0).mono ?_; rintro e w1 ⟨rfl, b1⟩)
 go_ret2
 exact ⟨rfl, b0.trans (b1.mono b0.size)⟩
set_option maxHeartbeats 4000000 in
set_option maxRecDepth 100000 in
theorem func_out {w : World} {v : Value} {D : FnD} (h : FnOk' w v D) {n : Int} (hn : n < 0 ∨ 8 ≤ n) (hC : ChkT 23 w v 0) : Calls Tryd.prog 9 #[v, .int .i64 n] w (AnsT [] 2 w) := by
 unfold ChkT at hC
 rw [h.eq] at hC ⊢
 have b0 : Below w.heap.size w (w.alloc (.cells #[.int .i64 D.p, .bool D.u, D.lv, D.bv] tFn)) := (Below.refl _ _).alloc (Nat.le_refl _) _
 have HC := Lib.hid hC
 clear hC h
 rcases Int.lt_or_le n 0 with h0 | h0
 ·clear hn
  go_enter Tryd.func9, Tryd.ntmps9
  go_wp2_with (go_at_call 23; refine (HC.out _ b0).mono ?_; rintro e w1 ⟨rfl, b1⟩)
  go_ret2
  exact ⟨rfl, b0.trans (b1.mono b0.size)⟩
 ·have h8 : 8 ≤ n := by omega
  have hd0 : ¬ n < 0 := by omega
  have hd : decide (n ≥ 8) = true := decide_eq_true h8
  clear hn
  go_enter Tryd.func9, Tryd.ntmps9
  go_wp2_with (go_at_call 23; refine (HC.out _ b0).mono ?_; rintro e w1 ⟨rfl, b1⟩)
  go_ret2
  exact ⟨rfl, b0.trans (b1.mono b0.size)⟩
set_option maxHeartbeats 4000000 in
set_option maxRecDepth 100000 in
theorem func_c {w : World} {v : Value} {D : FnD} (h : FnOk' w v D) (hL : Lim D) (hK : Cons w D) {n : Int} (h0 : 0 ≤ n) (h8 : n < 8) (hC : ChkT 23 w v 0) : Calls Tryd.prog 9 #[v, .int .i64 n] w (AnsT (textF D n) 0 w) := by
 have hW := fun (w1 : World) (b : Nat) (acc : List UInt8) (hb : w.heap.size ≤ b) (hb1 : Below w.heap.size w w1) (hB : Bld tB tU b acc w1) (ha : acc.length ≤ 100000000) => function_c h hL hK hb hb1 hB ha (n := n) (by omega)
 have hT := textF_lim hL n
 unfold ChkT at hC
 rw [h.eq] at hC hW ⊢
 have b0 : Below w.heap.size w (w.alloc (.cells #[.int .i64 D.p, .bool D.u, D.lv, D.bv] tFn)) := (Below.refl _ _).alloc (Nat.le_refl _) _
 have B0 : (w.alloc (.cells #[.int .i64 D.p, .bool D.u, D.lv, D.bv] tFn)).heap[w.heap.size]? = some (.cells #[.int .i64 D.p, .bool D.u, D.lv, D.bv] tFn (0, 0)) := at_alloc rfl
 have HC := Lib.hid hC
 have HW := Lib.hid hW
 have hd0 : ¬ n < 0 := by omega
 have hd1 : ¬ 8 ≤ n := by omega
 have hd : decide (n ≥ 8) = false := decide_eq_false hd1
 have HN := Lib.hid (And.intro h0 h8)
 clear hC hW h hL hK h0 h8
 go_enter Tryd.func9, Tryd.ntmps9
 go_upto_region 6 with (go_at_call 23; refine (HC.out _ b0).mono ?_; rintro e w1 ⟨rfl, b1⟩)
 have b01 := b0.trans (b1.mono b0.size)
 have B1 := (b1.block _ (Array.getElem?_eq_some_iff.1 B0).1).trans B0
 have HB := Lib.hid (new_bld w1)
 have y0 : w1.cell? ⟨w.heap.size, 0, none⟩ = some (.int .i64 D.p) := by rw [cell_of_row w1 _ 0 _ tFn (0, 0) B1]; rfl
 have y1 : w1.cell? ⟨w.heap.size, 1, none⟩ = some (.bool D.u) := by rw [cell_of_row w1 _ 1 _ tFn (0, 0) B1]; rfl
 have y2 : w1.cell? ⟨w.heap.size, 2, none⟩ = some D.lv := by rw [cell_of_row w1 _ 2 _ tFn (0, 0) B1]; rfl
 have y3 : w1.cell? ⟨w.heap.size, 3, none⟩ = some D.bv := by rw [cell_of_row w1 _ 3 _ tFn (0, 0) B1]; rfl
 have hlt1 : w.heap.size < w1.heap.size := (Array.getElem?_eq_some_iff.1 B1).1
 have HB01 := Lib.hid b01
 have HT := Lib.hid hT
 clear hd0 hd1 hd B0 b0 b1 b01 B1 hT
 go_wp2_with (first | (go_at_call 24; refine (HW.out _ _ _ HB01.out.size (HB01.out.alloc HB01.out.size _) HB.out (by simp)).mono ?_; rintro e w2 ⟨rfl, hb2, wr2⟩) | (go_at_call 25; refine (Tryd.Builder_String_any_k w1.heap.size w1.heap.size _ w2 hb2 (Nat.le_of_lt hb2.lt)).mono ?_; rintro e w3 ⟨rfl, _, b3, _⟩))
 go_ret2
 have b12 : Below w.heap.size w w2 := (HB01.out.alloc HB01.out.size _).trans (wr2.bel.mono HB01.out.size)
 exact ⟨by simp, b12.trans (b3.mono HB01.out.size)⟩
end Go.Proofs.YtglmonlofejcgaaDoor.txt
namespace Go.Proofs.YtglmonlofejcgaaDoor.Am
open Go.RowKit
set_option maxRecDepth 100000
end Go.Proofs.YtglmonlofejcgaaDoor.Am
namespace Go.Proofs.YtglmonlofejcgaaDoor.txt
open Go.RowKit Go.Proofs.YtglmonlofejcgaaDoor Go.Proofs.YtglmonlofejcgaaDoor.Am Go.Proofs.YtglmonlofejcgaaDoor.loan Go.Proofs.YtglmonlofejcgaaDoor.bld
set_option linter.unusedVariables false
theorem blk_jump {w : World} {b : BlkD} (h : BlkOk w b) : JumpIs w (.agg (b.pre ++ b.a :: b.post).toArray) b.pre b.a b.post b.ops :=
 ⟨rfl, h.prek, h.postk, ⟨h.opl.sl, h.opl.most, h.opl.at_, fun i el he => h.okd el (List.mem_of_getElem? he), h.opl.cap⟩⟩
theorem tab_more {w0 w : World} (k : TabOk w0) (h : Below w0.heap.size w0 w) : TabOk w := k.all fun b hb => h.block b (Nat.lt_of_lt_of_le hb k.size)
theorem lim_of {w : World} {v : Value} {D : FnD} (h : FnOk' w v D) (hc : check.chkF D = 0) : Lim D := by
 have k := txt_ok hc
 exact ⟨k.l0, k.b0, k.l1, k.b1, k.s, fun b hb => ops_9 (blk_jump (h.blk b hb)) (k.jm b hb)⟩
theorem cons_of {w : World} {v : Value} {D : FnD} (h : FnOk' w v D) (kt : TabOk w) (hc : check.chkF D = 0) : Cons w D := by
 have k := txt_ok hc
 refine ⟨fun n h0 h1 W hW => itoa_calls h0 h1 (tab_more kt hW), fun t ht W hW => type_c (h.lkd t ht) (k.ty t ht) W, fun b hb s hs W hW => ?_, fun b hb W hW => ?_⟩
 ·exact tstA_texts _ ((h.blk b hb).skd s hs) (k.st b hb s hs) W (tab_more kt hW)
 ·exact jTextA W _ _ _ _ _ (tab_more kt hW) (blk_jump ((h.frz hW.block).blk b hb)) (k.jm b hb)
theorem chk_a {w : World} {v : Value} {D : FnD} (h : FnOk' w v D) : ChkT 23 w v (check.chkF D) := fun w1 hb => check.check_ans (h.frz hb.block)
end Go.Proofs.YtglmonlofejcgaaDoor.txt
namespace Go.Proofs.YtglmonlofejcgaaDoor.txt
open Go.RowKit Go.Proofs.YtglmonlofejcgaaDoor Go.Proofs.YtglmonlofejcgaaDoor.Am Go.Proofs.YtglmonlofejcgaaDoor.loan Go.Proofs.YtglmonlofejcgaaDoor.bld
set_option linter.unusedVariables false
theorem core_ls {D D' : FnD} (h : D'.core = D.core) : D'.p = D.p ∧ D'.u = D.u ∧ D'.ls = D.ls ∧ D'.bs.map BlkD.core = D.bs.map BlkD.core := by
 unfold FnD.core at h
 injection h with h1 h2 _ _ h3 h4
 exact ⟨h1, h2, h3, h4⟩
theorem blkL_core (i : Nat) {b b' : BlkD} (h : b'.core = b.core) : blkL i b' = blkL i b := by
 unfold BlkD.core at h
 injection h with _ h1 _ h2 h3 h4
 unfold blkL jmL
 rw [h1, h2, h3, h4]
theorem get_core {D D' : FnD} (h : D'.bs.map BlkD.core = D.bs.map BlkD.core) (i : Nat) : (D'.bs.getD i noB).core = (D.bs.getD i noB).core := by
 have hi := congrArg (fun l => l[i]?) h
 simp only [List.getElem?_map] at hi
 rw [List.getD_eq_getElem?_getD, List.getD_eq_getElem?_getD]
 cases h1 : D'.bs[i]? <;> cases h2 : D.bs[i]? <;> rw [h1, h2] at hi <;> simp_all
theorem len_core {D D' : FnD} (h : D'.bs.map BlkD.core = D.bs.map BlkD.core) : D'.bs.length = D.bs.length := by simpa using congrArg List.length h
theorem text_core {D D' : FnD} (h : D'.core = D.core) (n : Int) : textF D' n = textF D n := by
 obtain ⟨h1, h2, h3, h4⟩ := core_ls h
 have hb : ∀ i, blksTo D' i = blksTo D i := fun i => by
  unfold blksTo
  congr 1
  funext k
  exact blkL_core k (get_core h4 k)
 unfold textF linesF locsTo
 rw [h1, h2, h3, hb, len_core h4]
end Go.Proofs.YtglmonlofejcgaaDoor.txt
