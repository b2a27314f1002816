/- Jumps: which are valid: the runs. What a jump uses and moves: class by class. What a jump uses and moves: the runs of each class. What a jump uses and moves: Uses and Moves, and the reference's, answer with these lists. What a jump uses and moves: the contracts. What a jump uses and moves: the contracts, joined. -/
import Derived.Test.YtglmonlofejcgaaDoorJump2
namespace Go.Proofs.YtglmonlofejcgaaDoor.Am
open Go.RowKit
set_option maxRecDepth 100000
noncomputable def cj0L : Lf := L0J
noncomputable def cj1L : Lf := (cj0L.hi 0 (4 - 1))
noncomputable def cj2L : Lf := (cj1L.hi 0 (2 - 1))
def cj2T : Sp := (.cut 0 1 (.cut 6 0 .leaf (.cut 6 1 (.cut 9 1 .leaf .leaf) .leaf)) (.cut 7 0 (.cut 6 0 .leaf (.cut 6 1 (.cut 9 1 (.conj [(10, 0), (11, 0), (12, 0)] (.conj [(1, 0), (2, 0), (3, 0), (4, 0), (5, 0)] .leaf .leaf) .leaf) .leaf) .leaf)) (.cut 7 24 (.cut 8 0 (.cut 6 0 .leaf (.cut 6 1 (.cut 9 1 (.conj [(10, 0), (11, 0), (12, 0)] (.conj [(1, 0), (2, 0), (3, 0), (4, 0), (5, 0)] .leaf .leaf) .leaf) .leaf) .leaf)) (.cut 8 1 (.conj [(1, 0), (2, 0), (3, 0), (4, 0), (5, 0)] (.cut 6 0 .leaf (.cut 6 1 (.cut 9 1 (.conj [(10, 0), (11, 0), (12, 0)] .leaf .leaf) .leaf) .leaf)) (.cut 6 0 .leaf (.cut 6 1 (.cut 9 1 (.conj [(10, 0), (11, 0), (12, 0)] .leaf .leaf) .leaf) .leaf))) (.cut 6 0 .leaf (.cut 6 1 (.cut 9 1 (.conj [(10, 0), (11, 0), (12, 0)] (.conj [(1, 0), (2, 0), (3, 0), (4, 0), (5, 0)] .leaf .leaf) .leaf) .leaf) .leaf)))) (.cut 6 0 .leaf (.cut 6 1 (.cut 9 1 (.conj [(10, 0), (11, 0), (12, 0)] (.conj [(1, 0), (2, 0), (3, 0), (4, 0), (5, 0)] .leaf .leaf) .leaf) .leaf) .leaf)))))
noncomputable def cj3L : Lf := (cj1L.lo 0 2)
noncomputable def cj4L : Lf := (cj3L.hi 0 (3 - 1))
def cj4T : Sp := (.cut 7 0 (.cut 6 0 .leaf (.cut 6 1 (.cut 9 1 (.conj [(10, 0), (11, 0), (12, 0)] (.cut 14 1 .leaf .leaf) .leaf) .leaf) .leaf)) (.cut 7 24 (.cut 8 0 (.cut 6 0 .leaf (.cut 6 1 (.cut 9 1 (.conj [(10, 0), (11, 0), (12, 0)] (.cut 14 1 .leaf .leaf) .leaf) .leaf) .leaf)) (.cut 8 24 (.cut 14 1 (.cut 6 0 .leaf (.cut 6 1 (.cut 9 1 (.conj [(10, 0), (11, 0), (12, 0)] .leaf .leaf) .leaf) .leaf)) (.cut 6 0 .leaf (.cut 6 1 (.cut 9 1 (.conj [(10, 0), (11, 0), (12, 0)] .leaf .leaf) .leaf) .leaf))) (.cut 6 0 .leaf (.cut 6 1 (.cut 9 1 (.conj [(10, 0), (11, 0), (12, 0)] (.cut 14 1 .leaf .leaf) .leaf) .leaf) .leaf)))) (.cut 6 0 .leaf (.cut 6 1 (.cut 9 1 (.conj [(10, 0), (11, 0), (12, 0)] (.cut 14 1 .leaf .leaf) .leaf) .leaf) .leaf))))
noncomputable def cj5L : Lf := (cj3L.lo 0 3)
def cj5T : Sp := (.cut 7 0 (.cut 6 0 .leaf (.cut 6 1 (.cut 9 1 (.conj [(10, 0), (11, 0), (12, 0)] (.conj [(1, 0), (2, 0), (3, 0), (4, 0), (5, 0)] .leaf .leaf) .leaf) .leaf) .leaf)) (.cut 7 1 (.cut 8 0 (.cut 6 0 .leaf (.cut 6 1 (.cut 9 1 (.conj [(10, 0), (11, 0), (12, 0)] (.conj [(1, 0), (2, 0), (3, 0), (4, 0), (5, 0)] .leaf .leaf) .leaf) .leaf) .leaf)) (.cut 8 1 (.conj [(1, 0), (2, 0), (3, 0), (4, 0), (5, 0)] (.cut 6 0 .leaf (.cut 6 1 (.cut 9 1 (.conj [(10, 0), (11, 0), (12, 0)] .leaf .leaf) .leaf) .leaf)) (.cut 6 0 .leaf (.cut 6 1 (.cut 9 1 (.conj [(10, 0), (11, 0), (12, 0)] .leaf .leaf) .leaf) .leaf))) (.cut 6 0 .leaf (.cut 6 1 (.cut 9 1 (.conj [(10, 0), (11, 0), (12, 0)] (.conj [(1, 0), (2, 0), (3, 0), (4, 0), (5, 0)] .leaf .leaf) .leaf) .leaf) .leaf)))) (.cut 6 0 .leaf (.cut 6 1 (.cut 9 1 (.conj [(10, 0), (11, 0), (12, 0)] (.conj [(1, 0), (2, 0), (3, 0), (4, 0), (5, 0)] .leaf .leaf) .leaf) .leaf) .leaf))))
def cj3T : Sp := .cut 0 3 cj4T cj5T
def cj1T : Sp := .cut 0 2 cj2T cj3T
noncomputable def cj6L : Lf := (cj0L.lo 0 4)
noncomputable def cj7L : Lf := (cj6L.hi 0 (5 - 1))
noncomputable def cj8L : Lf := (cj7L.hi 7 (0 - 1))
def cj8T : Sp := (.cut 6 0 (.conj [(1, 0), (2, 0), (3, 0), (4, 0), (5, 0)] .leaf .leaf) (.cut 6 1 (.cut 9 1 (.conj [(1, 0), (2, 0), (3, 0), (4, 0), (5, 0)] (.cut 15 1 .leaf .leaf) .leaf) (.conj [(1, 0), (2, 0), (3, 0), (4, 0), (5, 0)] (.cut 9 9 (.cut 15 1 .leaf .leaf) .leaf) .leaf)) (.conj [(1, 0), (2, 0), (3, 0), (4, 0), (5, 0)] (.cut 6 8 (.cut 9 9 (.cut 15 1 .leaf .leaf) .leaf) .leaf) .leaf)))
noncomputable def cj9L : Lf := (cj7L.lo 7 0)
noncomputable def cj10L : Lf := (cj9L.hi 7 (24 - 1))
noncomputable def cj11L : Lf := (cj10L.hi 8 (0 - 1))
def cj11T : Sp := (.cut 6 0 (.conj [(1, 0), (2, 0), (3, 0), (4, 0), (5, 0)] .leaf .leaf) (.cut 6 1 (.cut 9 1 (.conj [(1, 0), (2, 0), (3, 0), (4, 0), (5, 0)] (.cut 15 1 .leaf .leaf) .leaf) (.conj [(1, 0), (2, 0), (3, 0), (4, 0), (5, 0)] (.cut 9 9 (.cut 15 1 .leaf .leaf) .leaf) .leaf)) (.conj [(1, 0), (2, 0), (3, 0), (4, 0), (5, 0)] (.cut 6 8 (.cut 9 9 (.cut 15 1 .leaf .leaf) .leaf) .leaf) .leaf)))
noncomputable def cj12L : Lf := (cj10L.lo 8 0)
def cj12T : Sp := (.cut 8 1 (.conj [(1, 0), (2, 0), (3, 0), (4, 0), (5, 0)] (.cut 6 0 .leaf (.cut 6 8 (.cut 9 9 (.cut 15 1 (.cut 6 1 (.cut 9 1 .leaf .leaf) .leaf) (.cut 9 1 (.cut 13 1 (.cut 6 1 .leaf .leaf) (.cut 6 1 .leaf .leaf)) (.cut 13 1 (.cut 6 1 .leaf .leaf) (.cut 6 1 .leaf .leaf)))) (.cut 6 1 .leaf .leaf)) .leaf)) (.cut 6 0 .leaf (.cut 6 1 (.cut 9 1 .leaf .leaf) .leaf))) (.cut 6 0 (.conj [(1, 0), (2, 0), (3, 0), (4, 0), (5, 0)] .leaf .leaf) (.cut 6 1 (.cut 9 1 (.conj [(1, 0), (2, 0), (3, 0), (4, 0), (5, 0)] (.cut 15 1 .leaf .leaf) .leaf) (.conj [(1, 0), (2, 0), (3, 0), (4, 0), (5, 0)] (.cut 9 9 (.cut 15 1 .leaf .leaf) .leaf) .leaf)) (.conj [(1, 0), (2, 0), (3, 0), (4, 0), (5, 0)] (.cut 6 8 (.cut 9 9 (.cut 15 1 .leaf .leaf) .leaf) .leaf) .leaf))))
def cj10T : Sp := .cut 8 0 cj11T cj12T
noncomputable def cj13L : Lf := (cj9L.lo 7 24)
def cj13T : Sp := (.cut 6 0 (.conj [(1, 0), (2, 0), (3, 0), (4, 0), (5, 0)] .leaf .leaf) (.cut 6 1 (.cut 9 1 (.conj [(1, 0), (2, 0), (3, 0), (4, 0), (5, 0)] (.cut 15 1 .leaf .leaf) .leaf) (.conj [(1, 0), (2, 0), (3, 0), (4, 0), (5, 0)] (.cut 9 9 (.cut 15 1 .leaf .leaf) .leaf) .leaf)) (.conj [(1, 0), (2, 0), (3, 0), (4, 0), (5, 0)] (.cut 6 8 (.cut 9 9 (.cut 15 1 .leaf .leaf) .leaf) .leaf) .leaf)))
def cj9T : Sp := .cut 7 24 cj10T cj13T
def cj7T : Sp := .cut 7 0 cj8T cj9T
noncomputable def cj14L : Lf := (cj6L.lo 0 5)
def cj14T : Sp := (.cut 0 6 (.cut 7 0 (.cut 6 0 .leaf (.cut 6 1 (.cut 9 1 (.conj [(10, 0), (11, 0), (12, 0)] (.conj [(1, 0), (2, 0), (3, 0), (4, 0), (5, 0)] .leaf .leaf) .leaf) .leaf) .leaf)) (.cut 7 1 (.cut 8 0 (.cut 6 0 .leaf (.cut 6 1 (.cut 9 1 (.conj [(10, 0), (11, 0), (12, 0)] (.conj [(1, 0), (2, 0), (3, 0), (4, 0), (5, 0)] .leaf .leaf) .leaf) .leaf) .leaf)) (.cut 8 1 (.conj [(1, 0), (2, 0), (3, 0), (4, 0), (5, 0)] (.cut 6 0 .leaf (.cut 6 1 (.cut 9 1 (.conj [(10, 0), (11, 0), (12, 0)] .leaf .leaf) .leaf) .leaf)) (.cut 6 0 .leaf (.cut 6 1 (.cut 9 1 (.conj [(10, 0), (11, 0), (12, 0)] .leaf .leaf) .leaf) .leaf))) (.cut 6 0 .leaf (.cut 6 1 (.cut 9 1 (.conj [(10, 0), (11, 0), (12, 0)] (.conj [(1, 0), (2, 0), (3, 0), (4, 0), (5, 0)] .leaf .leaf) .leaf) .leaf) .leaf)))) (.cut 6 0 .leaf (.cut 6 1 (.cut 9 1 (.conj [(10, 0), (11, 0), (12, 0)] (.conj [(1, 0), (2, 0), (3, 0), (4, 0), (5, 0)] .leaf .leaf) .leaf) .leaf) .leaf)))) (.cut 6 0 .leaf (.cut 6 1 (.cut 9 1 .leaf .leaf) .leaf)))
def cj6T : Sp := .cut 0 5 cj7T cj14T
def cj0T : Sp := .cut 0 4 cj1T cj6T
theorem jA_cj2 : (cj2T.leaves cj2L).all (jAt m8 27) = true := by kernel_rfl
theorem jA_cj4 : (cj4T.leaves cj4L).all (jAt m8 27) = true := by kernel_rfl
theorem jA_cj5 : (cj5T.leaves cj5L).all (jAt m8 27) = true := by kernel_rfl
theorem jA_cj8 : (cj8T.leaves cj8L).all (jAt m8 27) = true := by kernel_rfl
theorem jA_cj11 : (cj11T.leaves cj11L).all (jAt m8 27) = true := by kernel_rfl
theorem jA_cj12 : (cj12T.leaves cj12L).all (jAt m8 27) = true := by kernel_rfl
theorem jA_cj13 : (cj13T.leaves cj13L).all (jAt m8 27) = true := by kernel_rfl
theorem jA_cj14 : (cj14T.leaves cj14L).all (jAt m8 27) = true := by kernel_rfl
theorem jA_cj3 : (cj3T.leaves cj3L).all (jAt m8 27) = true := by
 have e : cj3T.leaves cj3L = cj4T.leaves cj4L ++ cj5T.leaves cj5L := rfl
 rw [e]
 simp only [List.all_append, jA_cj4, jA_cj5, Bool.and_self]
theorem jA_cj1 : (cj1T.leaves cj1L).all (jAt m8 27) = true := by
 have e : cj1T.leaves cj1L = cj2T.leaves cj2L ++ cj3T.leaves cj3L := rfl
 rw [e]
 simp only [List.all_append, jA_cj2, jA_cj3, Bool.and_self]
theorem jA_cj10 : (cj10T.leaves cj10L).all (jAt m8 27) = true := by
 have e : cj10T.leaves cj10L = cj11T.leaves cj11L ++ cj12T.leaves cj12L := rfl
 rw [e]
 simp only [List.all_append, jA_cj11, jA_cj12, Bool.and_self]
theorem jA_cj9 : (cj9T.leaves cj9L).all (jAt m8 27) = true := by
 have e : cj9T.leaves cj9L = cj10T.leaves cj10L ++ cj13T.leaves cj13L := rfl
 rw [e]
 simp only [List.all_append, jA_cj10, jA_cj13, Bool.and_self]
theorem jA_cj7 : (cj7T.leaves cj7L).all (jAt m8 27) = true := by
 have e : cj7T.leaves cj7L = cj8T.leaves cj8L ++ cj9T.leaves cj9L := rfl
 rw [e]
 simp only [List.all_append, jA_cj8, jA_cj9, Bool.and_self]
theorem jA_cj6 : (cj6T.leaves cj6L).all (jAt m8 27) = true := by
 have e : cj6T.leaves cj6L = cj7T.leaves cj7L ++ cj14T.leaves cj14L := rfl
 rw [e]
 simp only [List.all_append, jA_cj7, jA_cj14, Bool.and_self]
theorem jA_cj0 : (cj0T.leaves cj0L).all (jAt m8 27) = true := by
 have e : cj0T.leaves cj0L = cj1T.leaves cj1L ++ cj6T.leaves cj6L := rfl
 rw [e]
 simp only [List.all_append, jA_cj1, jA_cj6, Bool.and_self]
theorem jA_tests : TestsJ 27 v8 := jump_tests m8_ok (sp := cj0T) jA_cj0
theorem jV_cj2 : (cj2T.leaves cj2L).all (jAt mB 69) = true := by kernel_rfl
theorem jV_cj4 : (cj4T.leaves cj4L).all (jAt mB 69) = true := by kernel_rfl
theorem jV_cj5 : (cj5T.leaves cj5L).all (jAt mB 69) = true := by kernel_rfl
theorem jV_cj8 : (cj8T.leaves cj8L).all (jAt mB 69) = true := by kernel_rfl
theorem jV_cj11 : (cj11T.leaves cj11L).all (jAt mB 69) = true := by kernel_rfl
theorem jV_cj12 : (cj12T.leaves cj12L).all (jAt mB 69) = true := by kernel_rfl
theorem jV_cj13 : (cj13T.leaves cj13L).all (jAt mB 69) = true := by kernel_rfl
theorem jV_cj14 : (cj14T.leaves cj14L).all (jAt mB 69) = true := by kernel_rfl
theorem jV_cj3 : (cj3T.leaves cj3L).all (jAt mB 69) = true := by
 have e : cj3T.leaves cj3L = cj4T.leaves cj4L ++ cj5T.leaves cj5L := rfl
 rw [e]
 simp only [List.all_append, jV_cj4, jV_cj5, Bool.and_self]
theorem jV_cj1 : (cj1T.leaves cj1L).all (jAt mB 69) = true := by
 have e : cj1T.leaves cj1L = cj2T.leaves cj2L ++ cj3T.leaves cj3L := rfl
 rw [e]
 simp only [List.all_append, jV_cj2, jV_cj3, Bool.and_self]
theorem jV_cj10 : (cj10T.leaves cj10L).all (jAt mB 69) = true := by
 have e : cj10T.leaves cj10L = cj11T.leaves cj11L ++ cj12T.leaves cj12L := rfl
 rw [e]
 simp only [List.all_append, jV_cj11, jV_cj12, Bool.and_self]
theorem jV_cj9 : (cj9T.leaves cj9L).all (jAt mB 69) = true := by
 have e : cj9T.leaves cj9L = cj10T.leaves cj10L ++ cj13T.leaves cj13L := rfl
 rw [e]
 simp only [List.all_append, jV_cj10, jV_cj13, Bool.and_self]
theorem jV_cj7 : (cj7T.leaves cj7L).all (jAt mB 69) = true := by
 have e : cj7T.leaves cj7L = cj8T.leaves cj8L ++ cj9T.leaves cj9L := rfl
 rw [e]
 simp only [List.all_append, jV_cj8, jV_cj9, Bool.and_self]
theorem jV_cj6 : (cj6T.leaves cj6L).all (jAt mB 69) = true := by
 have e : cj6T.leaves cj6L = cj7T.leaves cj7L ++ cj14T.leaves cj14L := rfl
 rw [e]
 simp only [List.all_append, jV_cj7, jV_cj14, Bool.and_self]
theorem jV_cj0 : (cj0T.leaves cj0L).all (jAt mB 69) = true := by
 have e : cj0T.leaves cj0L = cj1T.leaves cj1L ++ cj6T.leaves cj6L := rfl
 rw [e]
 simp only [List.all_append, jV_cj1, jV_cj6, Bool.and_self]
theorem jV_tests : TestsJ 69 .bool := jump_tests mB_ok (sp := cj0T) jV_cj0
end Go.Proofs.YtglmonlofejcgaaDoor.Am
namespace Go.Proofs.YtglmonlofejcgaaDoor.Am
open Go.RowKit
set_option maxRecDepth 100000
set_option linter.unusedVariables false
set_option linter.unusedSectionVars false
end Go.Proofs.YtglmonlofejcgaaDoor.Am
namespace Go.Proofs.YtglmonlofejcgaaDoor.Am
open Go.RowKit
set_option maxRecDepth 100000
end Go.Proofs.YtglmonlofejcgaaDoor.Am
namespace Go.Proofs.YtglmonlofejcgaaDoor.Am
open Go.RowKit
set_option maxRecDepth 100000
set_option maxHeartbeats 1000000
set_option linter.unusedVariables false
set_option linter.unusedSectionVars false
def partJ (post : List Value) : Prop := cellI post 1 = 1 ∨ 0 < cellI post 2
instance (post : List Value) : Decidable (partJ post) := inferInstanceAs (Decidable (_ ∨ _))
theorem zsv {us : List Value} {o n : Nat} (h : (E.zero (zs o n)).val us = true) : ∀ i, i < n → cellI us (o + i) = 0 := by
 intro i hi
 simp only [E.val, List.all_eq_true, zs, List.mem_map, List.mem_range] at h
 exact of_decide_eq_true (h (o + i, 0) ⟨i, hi, rfl⟩)
theorem onev {us : List Value} {i : Nat} {c : Int} (h : (E.zero [(i, c)]).val us = true) : cellI us i = c := by
 simp only [E.val, List.all_cons, List.all_nil, Bool.and_true] at h
 exact of_decide_eq_true h
theorem inv {us : List Value} {i : Nat} {c : Int} (h : (inRE i c).val us = true) : 0 ≤ cellI us i ∧ cellI us i < c := by
 simp only [inRE, E.ands, E.val, Bool.and_eq_true, Bool.not_eq_true', decide_eq_true_eq, decide_eq_false_iff_not] at h
 omega
section
variable {w : World} {v : Value} {pre : List Value} {sv : Value} {post : List Value} {els : List (List Value)} (hj : JumpIs w v pre sv post els)
include hj
theorem fl_pre {i : Nat} (h : i < 9) : cellI (flatJ pre els post) i = cellI pre i := cellI_lt (by rw [len_pre hj]; exact h)
theorem fl_post (i : Nat) : cellI (flatJ pre els post) (10 + i) = cellI post i := by
 unfold flatJ
 have : pre ++ Value.int .i64 els.length :: post = (pre ++ [Value.int .i64 els.length]) ++ post := by simp
 rw [this, cellI_ge (by simp [len_pre hj])]
inductive IsJ (pre : List Value) (els : List (List Value)) (post : List Value) : Prop where
 | goto (k : cellI pre 0 = 1) (a : ∀ i, i < 6 → cellI pre (1 + i) = 0) (n : 0 ≤ cellI pre 7 ∧ cellI pre 7 < 24) (e : cellI pre 8 = 0) (l : els = []) (d : ∀ i, i < 3 → cellI post i = 0)
 | branch (k : cellI pre 0 = 2) (a : (okOpE 0).val ((pre.drop 1).take 5) = true) (f : cellI pre 6 = 0) (n : 0 ≤ cellI pre 7 ∧ cellI pre 7 < 24) (e : 0 ≤ cellI pre 8 ∧ cellI pre 8 < 24) (l : els = []) (d : ∀ i, i < 3 → cellI post i = 0)
 | last (k : cellI pre 0 = 3 ∨ cellI pre 0 = 5) (a : ∀ i, i < 8 → cellI pre (1 + i) = 0) (l : els = []) (d : ∀ i, i < 3 → cellI post i = 0)
 | call (k : cellI pre 0 = 4) (a : ∀ i, i < 5 → cellI pre (1 + i) = 0) (f : 0 ≤ cellI pre 6 ∧ cellI pre 6 < 8) (n : 0 ≤ cellI pre 7 ∧ cellI pre 7 < 24) (e : cellI pre 8 = 0) (l : els.length < 9) (d : (okPlE 0).val post = true) (o : (els.all fun el => (okOpE 0).val el) = true)
theorem isJ (h : okJ pre els post = true) : IsJ pre els post := by
 have hl := len_flat hj
 have lt : ∀ {i : Nat}, i < 13 → cellI (flatJ pre els post ++ (bitsJ pre els post).map (Value.int .i64)) i = cellI (flatJ pre els post) i := fun {i} hi => cellI_lt (by rw [hl]; exact hi)
 have bit : ∀ {j : Nat} {x : Bool}, (bitsJ pre els post)[j]? = some (b2i x) → cellI (flatJ pre els post ++ (bitsJ pre els post).map (Value.int .i64)) (13 + j) = 1 → x = true := fun {j x} hx hc => by
  rw [cellI_ge hl] at hc
  unfold cellI at hc
  rw [List.getElem?_map, hx] at hc
  have hc : b2i x = 1 := hc
  cases x
  ·cases hc
  ·rfl
 have e : ∀ vs : List Value, okJB.val vs = (((E.zero [(0, 1)]).val vs && ((E.zero (zs 1 6)).val vs && ((inRE 7 24).val vs && (E.zero (zs 8 5)).val vs))) ||
   (((E.zero [(0, 2)]).val vs && ((E.zero [(14, 1)]).val vs && ((E.zero [(6, 0)]).val vs && ((inRE 7 24).val vs && ((inRE 8 24).val vs && (E.zero (zs 9 4)).val vs))))) ||
   ((((E.zero [(0, 3)]).val vs || (E.zero [(0, 5)]).val vs) && (E.zero (zs 1 12)).val vs) ||
   ((E.zero [(0, 4)]).val vs && ((E.zero (zs 1 5)).val vs && ((inRE 6 8).val vs && ((inRE 7 24).val vs && ((E.zero [(8, 0)]).val vs && ((E.lt 9 9).val vs && ((E.zero [(15, 1)]).val vs && (E.zero [(13, 1)]).val vs)))))))))) := fun _ => rfl
 unfold okJ at h
 rw [e] at h
 simp only [Bool.or_eq_true, Bool.and_eq_true] at h
 have ln := cell_len hj
 have nil0 : cellI (flatJ pre els post) 9 = 0 → els = [] := fun h0 => List.eq_nil_of_length_eq_zero (by rw [ln] at h0; omega)
 have pr := fun {i : Nat} (hi : i < 9) => (lt (show i < 13 by omega)).trans (fl_pre hj hi)
 have po := fun {i : Nat} (hi : i < 3) => (lt (show 10 + i < 13 by omega)).trans (fl_post hj i)
 rcases h with ⟨k, a, n, z⟩ | ⟨k, a, f, n, e8, z⟩ | ⟨k, z⟩ | ⟨k, a, f, n, e8, l, d, o⟩
 ·have a := zsv a; have n := inv n; have z := zsv z; have k := onev k
  rw [pr (by decide)] at k n
  refine .goto k (fun i hi => ?_) n ?_ (nil0 ?_) fun i hi => ?_
  ·rw [← pr (by omega)]; exact a i hi
  ·rw [← pr (by decide)]; exact z 0 (by decide)
  ·rw [← lt (by decide)]; exact z 1 (by decide)
  ·rw [← po hi, show 10 + i = 8 + (2 + i) by omega]; exact z (2 + i) (by omega)
 ·have k := onev k; have f := onev f; have n := inv n; have e8 := inv e8; have z := zsv z
  have a : (okOpE 1).val (flatJ pre els post) = true := bit (j := 1) rfl (onev a)
  rw [pr (by decide)] at k n f e8
  refine .branch k ?_ f n e8 (nil0 ?_) fun i hi => ?_
  ·have h0 : (okOpE 0).val (((flatJ pre els post).drop 1).take 5) = (okOpE 1).val (flatJ pre els post) := (mv_val (okOpE 0) (by decide)).trans rfl
   have h1 : ((flatJ pre els post).drop 1).take 5 = (pre.drop 1).take 5 := by
    unfold flatJ
    rw [List.drop_append_of_le_length (by rw [len_pre hj]; decide), List.take_append_of_le_length (by rw [List.length_drop, len_pre hj]; decide)]
   rw [← h1, h0]
   exact a
  ·rw [← lt (by decide)]; exact z 0 (by decide)
  ·rw [← po hi, show 10 + i = 9 + (1 + i) by omega]; exact z (1 + i) (by omega)
 ·have z := zsv z
  refine .last (k.imp (fun k => by have k := onev k; rwa [pr (by decide)] at k) (fun k => by have k := onev k; rwa [pr (by decide)] at k)) (fun i hi => ?_) (nil0 ?_) fun i hi => ?_
  ·rw [← pr (by omega)]; exact z i (by omega)
  ·rw [← lt (by decide)]; exact z 8 (by decide)
  ·rw [← po hi, show 10 + i = 1 + (9 + i) by omega]; exact z (9 + i) (by omega)
 ·have k := onev k; have a := zsv a; have f := inv f; have n := inv n; have e8 := onev e8
  have l : cellI (flatJ pre els post ++ (bitsJ pre els post).map (Value.int .i64)) 9 < 9 := by simpa [E.val] using l
  have d : (okPlE 10).val (flatJ pre els post) = true := bit (j := 2) rfl (onev d)
  have o : (els.all fun el => (okOpE 0).val el) = true := bit (j := 0) rfl (onev o)
  rw [pr (by decide)] at k f n e8
  rw [lt (by decide), ln] at l
  refine .call k (fun i hi => ?_) f n e8 (by omega) ?_ o
  ·rw [← pr (by omega)]; exact a i hi
  ·have h0 : (okPlE 0).val (((flatJ pre els post).drop 10).take 3) = (okPlE 10).val (flatJ pre els post) := pl_at
   have h1 : ((flatJ pre els post).drop 10).take 3 = post := by
    unfold flatJ
    rw [List.drop_append, List.drop_of_length_le (by rw [len_pre hj]; decide), len_pre hj]
    show ((Value.int .i64 els.length :: post).drop 1).take 3 = post
    rw [List.drop_succ_cons, List.drop_zero, List.take_of_length_le (by rw [len_post hj]; decide)]
   rw [← h1, h0]
   exact d
theorem okPre (i : Nat) (h : i < 9) {k : Kd} (hk : kPre[i]? = some k) : ∃ x, pre[i]? = some x ∧ k.ok x := by
 have := All2.nth hj.pre (n := i) (x := k) (by rw [nth_eq]; exact hk)
 exact this
end
end Go.Proofs.YtglmonlofejcgaaDoor.Am
namespace Go.Proofs.YtglmonlofejcgaaDoor.Am
open Go.RowKit
set_option maxRecDepth 100000
set_option maxHeartbeats 1000000
set_option linter.unusedVariables false
set_option linter.unusedSectionVars false
section
variable {w : World} {v : Value} {pre : List Value} {sv : Value} {post : List Value} {els : List (List Value)} (hj : JumpIs w v pre sv post els)
include hj
section
variable {b : Base} (r3 : b.rho 3 = cellI pre 3) (r10 : b.rho 10 = cellI post 0)
include r3 r10
end
theorem Lf.Holds.onlyB {L : Lf} {rho : Nat → Int} {sig : Nat → List UInt8} (h : L.Holds rho sig) {i : Nat} {c : Int} (e : rho i = c) : (onlyB L i c).Holds rho sig := (h.hi (i := i) (c := c) (by omega)).lo (i := i) (c := c) (by omega)
end
end Go.Proofs.YtglmonlofejcgaaDoor.Am
namespace Go.Proofs.YtglmonlofejcgaaDoor.Am
open Go.RowKit
set_option maxRecDepth 100000
set_option maxHeartbeats 1000000
set_option linter.unusedVariables false
set_option linter.unusedSectionVars false
section
variable {w : World} {v : Value} {pre : List Value} {sv : Value} {post : List Value} {els : List (List Value)} (hj : JumpIs w v pre sv post els)
include hj
end
theorem cells_one (L : Lf) : ((([.g cellsJ] : List A).map L.nA).all A.oneR) = true := by
 show ((cellsJ.map L.nS).all S.oneR && true) = true
 rw [Bool.and_true]
 have h1 := ones_T L kPre 0 rfl
 have h2 := ones_T L kPost 10 rfl
 have up : ∀ {l : List S}, l.all S.one = true → l.all S.oneR = true := fun {l} h => List.all_eq_true.2 fun x hx => by
  have := List.all_eq_true.1 h x hx
  cases x <;> first | exact this | rfl
 unfold cellsJ
 rw [List.map_append, List.map_cons, List.all_append, List.all_cons, up h1, up h2]
 rfl
end Go.Proofs.YtglmonlofejcgaaDoor.Am
