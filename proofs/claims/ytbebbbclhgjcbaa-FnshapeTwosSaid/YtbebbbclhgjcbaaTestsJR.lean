/- Jumps: which are valid: the runs. -/
import Derived.Test.YtbebbbclhgjcbaaJump2
namespace Go.Proofs.Ytbebbbclhgjcbaa.Am
open Go.RowKit
set_option maxRecDepth 100000
noncomputable def cj0L : Lf := L0J
noncomputable def cj1L : Lf := (cj0L.hi 0 (4 - 1))
noncomputable def cj2L : Lf := (cj1L.hi 0 (2 - 1))
def cj2T : Sp := (.cut 0 1 (.cut 6 0 .leaf (.cut 6 1 (.cut 9 1 .leaf .leaf) .leaf)) (.cut 7 0 (.cut 6 0 .leaf (.cut 6 1 (.cut 9 1 (.conj [(10, 0), (11, 0), (12, 0)] (.conj [(1, 0), (2, 0), (3, 0), (4, 0), (5, 0)] .leaf .leaf) .leaf) .leaf) .leaf)) (.cut 7 24 (.cut 8 0 (.cut 6 0 .leaf (.cut 6 1 (.cut 9 1 (.conj [(10, 0), (11, 0), (12, 0)] (.conj [(1, 0), (2, 0), (3, 0), (4, 0), (5, 0)] .leaf .leaf) .leaf) .leaf) .leaf)) (.cut 8 1 (.conj [(1, 0), (2, 0), (3, 0), (4, 0), (5, 0)] (.cut 6 0 .leaf (.cut 6 1 (.cut 9 1 (.conj [(10, 0), (11, 0), (12, 0)] .leaf .leaf) .leaf) .leaf)) (.cut 6 0 .leaf (.cut 6 1 (.cut 9 1 (.conj [(10, 0), (11, 0), (12, 0)] .leaf .leaf) .leaf) .leaf))) (.cut 6 0 .leaf (.cut 6 1 (.cut 9 1 (.conj [(10, 0), (11, 0), (12, 0)] (.conj [(1, 0), (2, 0), (3, 0), (4, 0), (5, 0)] .leaf .leaf) .leaf) .leaf) .leaf)))) (.cut 6 0 .leaf (.cut 6 1 (.cut 9 1 (.conj [(10, 0), (11, 0), (12, 0)] (.conj [(1, 0), (2, 0), (3, 0), (4, 0), (5, 0)] .leaf .leaf) .leaf) .leaf) .leaf)))))
noncomputable def cj3L : Lf := (cj1L.lo 0 2)
noncomputable def cj4L : Lf := (cj3L.hi 0 (3 - 1))
def cj4T : Sp := (.cut 7 0 (.cut 6 0 .leaf (.cut 6 1 (.cut 9 1 (.conj [(10, 0), (11, 0), (12, 0)] (.cut 14 1 .leaf .leaf) .leaf) .leaf) .leaf)) (.cut 7 24 (.cut 8 0 (.cut 6 0 .leaf (.cut 6 1 (.cut 9 1 (.conj [(10, 0), (11, 0), (12, 0)] (.cut 14 1 .leaf .leaf) .leaf) .leaf) .leaf)) (.cut 8 24 (.cut 14 1 (.cut 6 0 .leaf (.cut 6 1 (.cut 9 1 (.conj [(10, 0), (11, 0), (12, 0)] .leaf .leaf) .leaf) .leaf)) (.cut 6 0 .leaf (.cut 6 1 (.cut 9 1 (.conj [(10, 0), (11, 0), (12, 0)] .leaf .leaf) .leaf) .leaf))) (.cut 6 0 .leaf (.cut 6 1 (.cut 9 1 (.conj [(10, 0), (11, 0), (12, 0)] (.cut 14 1 .leaf .leaf) .leaf) .leaf) .leaf)))) (.cut 6 0 .leaf (.cut 6 1 (.cut 9 1 (.conj [(10, 0), (11, 0), (12, 0)] (.cut 14 1 .leaf .leaf) .leaf) .leaf) .leaf))))
noncomputable def cj5L : Lf := (cj3L.lo 0 3)
def cj5T : Sp := (.cut 7 0 (.cut 6 0 .leaf (.cut 6 1 (.cut 9 1 (.conj [(10, 0), (11, 0), (12, 0)] (.conj [(1, 0), (2, 0), (3, 0), (4, 0), (5, 0)] .leaf .leaf) .leaf) .leaf) .leaf)) (.cut 7 1 (.cut 8 0 (.cut 6 0 .leaf (.cut 6 1 (.cut 9 1 (.conj [(10, 0), (11, 0), (12, 0)] (.conj [(1, 0), (2, 0), (3, 0), (4, 0), (5, 0)] .leaf .leaf) .leaf) .leaf) .leaf)) (.cut 8 1 (.conj [(1, 0), (2, 0), (3, 0), (4, 0), (5, 0)] (.cut 6 0 .leaf (.cut 6 1 (.cut 9 1 (.conj [(10, 0), (11, 0), (12, 0)] .leaf .leaf) .leaf) .leaf)) (.cut 6 0 .leaf (.cut 6 1 (.cut 9 1 (.conj [(10, 0), (11, 0), (12, 0)] .leaf .leaf) .leaf) .leaf))) (.cut 6 0 .leaf (.cut 6 1 (.cut 9 1 (.conj [(10, 0), (11, 0), (12, 0)] (.conj [(1, 0), (2, 0), (3, 0), (4, 0), (5, 0)] .leaf .leaf) .leaf) .leaf) .leaf)))) (.cut 6 0 .leaf (.cut 6 1 (.cut 9 1 (.conj [(10, 0), (11, 0), (12, 0)] (.conj [(1, 0), (2, 0), (3, 0), (4, 0), (5, 0)] .leaf .leaf) .leaf) .leaf) .leaf))))
def cj3T : Sp := .cut 0 3 cj4T cj5T
def cj1T : Sp := .cut 0 2 cj2T cj3T
noncomputable def cj6L : Lf := (cj0L.lo 0 4)
noncomputable def cj7L : Lf := (cj6L.hi 0 (5 - 1))
noncomputable def cj8L : Lf := (cj7L.hi 7 (0 - 1))
def cj8T : Sp := (.cut 6 0 (.conj [(1, 0), (2, 0), (3, 0), (4, 0), (5, 0)] .leaf .leaf) (.cut 6 1 (.cut 9 1 (.conj [(1, 0), (2, 0), (3, 0), (4, 0), (5, 0)] (.cut 15 1 .leaf .leaf) .leaf) (.conj [(1, 0), (2, 0), (3, 0), (4, 0), (5, 0)] (.cut 9 9 (.cut 15 1 .leaf .leaf) .leaf) .leaf)) (.conj [(1, 0), (2, 0), (3, 0), (4, 0), (5, 0)] (.cut 6 8 (.cut 9 9 (.cut 15 1 .leaf .leaf) .leaf) .leaf) .leaf)))
noncomputable def cj9L : Lf := (cj7L.lo 7 0)
noncomputable def cj10L : Lf := (cj9L.hi 7 (24 - 1))
noncomputable def cj11L : Lf := (cj10L.hi 8 (0 - 1))
def cj11T : Sp := (.cut 6 0 (.conj [(1, 0), (2, 0), (3, 0), (4, 0), (5, 0)] .leaf .leaf) (.cut 6 1 (.cut 9 1 (.conj [(1, 0), (2, 0), (3, 0), (4, 0), (5, 0)] (.cut 15 1 .leaf .leaf) .leaf) (.conj [(1, 0), (2, 0), (3, 0), (4, 0), (5, 0)] (.cut 9 9 (.cut 15 1 .leaf .leaf) .leaf) .leaf)) (.conj [(1, 0), (2, 0), (3, 0), (4, 0), (5, 0)] (.cut 6 8 (.cut 9 9 (.cut 15 1 .leaf .leaf) .leaf) .leaf) .leaf)))
noncomputable def cj12L : Lf := (cj10L.lo 8 0)
def cj12T : Sp := (.cut 8 1 (.conj [(1, 0), (2, 0), (3, 0), (4, 0), (5, 0)] (.cut 6 0 .leaf (.cut 6 8 (.cut 9 9 (.cut 15 1 (.cut 6 1 (.cut 9 1 .leaf .leaf) .leaf) (.cut 9 1 (.cut 13 1 (.cut 6 1 .leaf .leaf) (.cut 6 1 .leaf .leaf)) (.cut 13 1 (.cut 6 1 .leaf .leaf) (.cut 6 1 .leaf .leaf)))) (.cut 6 1 .leaf .leaf)) .leaf)) (.cut 6 0 .leaf (.cut 6 1 (.cut 9 1 .leaf .leaf) .leaf))) (.cut 6 0 (.conj [(1, 0), (2, 0), (3, 0), (4, 0), (5, 0)] .leaf .leaf) (.cut 6 1 (.cut 9 1 (.conj [(1, 0), (2, 0), (3, 0), (4, 0), (5, 0)] (.cut 15 1 .leaf .leaf) .leaf) (.conj [(1, 0), (2, 0), (3, 0), (4, 0), (5, 0)] (.cut 9 9 (.cut 15 1 .leaf .leaf) .leaf) .leaf)) (.conj [(1, 0), (2, 0), (3, 0), (4, 0), (5, 0)] (.cut 6 8 (.cut 9 9 (.cut 15 1 .leaf .leaf) .leaf) .leaf) .leaf))))
def cj10T : Sp := .cut 8 0 cj11T cj12T
noncomputable def cj13L : Lf := (cj9L.lo 7 24)
def cj13T : Sp := (.cut 6 0 (.conj [(1, 0), (2, 0), (3, 0), (4, 0), (5, 0)] .leaf .leaf) (.cut 6 1 (.cut 9 1 (.conj [(1, 0), (2, 0), (3, 0), (4, 0), (5, 0)] (.cut 15 1 .leaf .leaf) .leaf) (.conj [(1, 0), (2, 0), (3, 0), (4, 0), (5, 0)] (.cut 9 9 (.cut 15 1 .leaf .leaf) .leaf) .leaf)) (.conj [(1, 0), (2, 0), (3, 0), (4, 0), (5, 0)] (.cut 6 8 (.cut 9 9 (.cut 15 1 .leaf .leaf) .leaf) .leaf) .leaf)))
def cj9T : Sp := .cut 7 24 cj10T cj13T
def cj7T : Sp := .cut 7 0 cj8T cj9T
noncomputable def cj14L : Lf := (cj6L.lo 0 5)
def cj14T : Sp := (.cut 0 6 (.cut 7 0 (.cut 6 0 .leaf (.cut 6 1 (.cut 9 1 (.conj [(10, 0), (11, 0), (12, 0)] (.conj [(1, 0), (2, 0), (3, 0), (4, 0), (5, 0)] .leaf .leaf) .leaf) .leaf) .leaf)) (.cut 7 1 (.cut 8 0 (.cut 6 0 .leaf (.cut 6 1 (.cut 9 1 (.conj [(10, 0), (11, 0), (12, 0)] (.conj [(1, 0), (2, 0), (3, 0), (4, 0), (5, 0)] .leaf .leaf) .leaf) .leaf) .leaf)) (.cut 8 1 (.conj [(1, 0), (2, 0), (3, 0), (4, 0), (5, 0)] (.cut 6 0 .leaf (.cut 6 1 (.cut 9 1 (.conj [(10, 0), (11, 0), (12, 0)] .leaf .leaf) .leaf) .leaf)) (.cut 6 0 .leaf (.cut 6 1 (.cut 9 1 (.conj [(10, 0), (11, 0), (12, 0)] .leaf .leaf) .leaf) .leaf))) (.cut 6 0 .leaf (.cut 6 1 (.cut 9 1 (.conj [(10, 0), (11, 0), (12, 0)] (.conj [(1, 0), (2, 0), (3, 0), (4, 0), (5, 0)] .leaf .leaf) .leaf) .leaf) .leaf)))) (.cut 6 0 .leaf (.cut 6 1 (.cut 9 1 (.conj [(10, 0), (11, 0), (12, 0)] (.conj [(1, 0), (2, 0), (3, 0), (4, 0), (5, 0)] .leaf .leaf) .leaf) .leaf) .leaf)))) (.cut 6 0 .leaf (.cut 6 1 (.cut 9 1 .leaf .leaf) .leaf)))
def cj6T : Sp := .cut 0 5 cj7T cj14T
def cj0T : Sp := .cut 0 4 cj1T cj6T
theorem jA_cj2 : (cj2T.leaves cj2L).all (jAt m8 36) = true := by kernel_rfl
theorem jA_cj4 : (cj4T.leaves cj4L).all (jAt m8 36) = true := by kernel_rfl
theorem jA_cj5 : (cj5T.leaves cj5L).all (jAt m8 36) = true := by kernel_rfl
theorem jA_cj8 : (cj8T.leaves cj8L).all (jAt m8 36) = true := by kernel_rfl
theorem jA_cj11 : (cj11T.leaves cj11L).all (jAt m8 36) = true := by kernel_rfl
theorem jA_cj12 : (cj12T.leaves cj12L).all (jAt m8 36) = true := by kernel_rfl
theorem jA_cj13 : (cj13T.leaves cj13L).all (jAt m8 36) = true := by kernel_rfl
theorem jA_cj14 : (cj14T.leaves cj14L).all (jAt m8 36) = true := by kernel_rfl
theorem jA_cj3 : (cj3T.leaves cj3L).all (jAt m8 36) = true := by
  have e : cj3T.leaves cj3L = cj4T.leaves cj4L ++ cj5T.leaves cj5L := rfl
  rw [e]
  simp only [List.all_append, jA_cj4, jA_cj5, Bool.and_self]
theorem jA_cj1 : (cj1T.leaves cj1L).all (jAt m8 36) = true := by
  have e : cj1T.leaves cj1L = cj2T.leaves cj2L ++ cj3T.leaves cj3L := rfl
  rw [e]
  simp only [List.all_append, jA_cj2, jA_cj3, Bool.and_self]
theorem jA_cj10 : (cj10T.leaves cj10L).all (jAt m8 36) = true := by
  have e : cj10T.leaves cj10L = cj11T.leaves cj11L ++ cj12T.leaves cj12L := rfl
  rw [e]
  simp only [List.all_append, jA_cj11, jA_cj12, Bool.and_self]
theorem jA_cj9 : (cj9T.leaves cj9L).all (jAt m8 36) = true := by
  have e : cj9T.leaves cj9L = cj10T.leaves cj10L ++ cj13T.leaves cj13L := rfl
  rw [e]
  simp only [List.all_append, jA_cj10, jA_cj13, Bool.and_self]
theorem jA_cj7 : (cj7T.leaves cj7L).all (jAt m8 36) = true := by
  have e : cj7T.leaves cj7L = cj8T.leaves cj8L ++ cj9T.leaves cj9L := rfl
  rw [e]
  simp only [List.all_append, jA_cj8, jA_cj9, Bool.and_self]
theorem jA_cj6 : (cj6T.leaves cj6L).all (jAt m8 36) = true := by
  have e : cj6T.leaves cj6L = cj7T.leaves cj7L ++ cj14T.leaves cj14L := rfl
  rw [e]
  simp only [List.all_append, jA_cj7, jA_cj14, Bool.and_self]
theorem jA_cj0 : (cj0T.leaves cj0L).all (jAt m8 36) = true := by
  have e : cj0T.leaves cj0L = cj1T.leaves cj1L ++ cj6T.leaves cj6L := rfl
  rw [e]
  simp only [List.all_append, jA_cj1, jA_cj6, Bool.and_self]
theorem jA_tests : TestsJ 36 v8 := jump_tests m8_ok (sp := cj0T) jA_cj0
theorem jV_cj2 : (cj2T.leaves cj2L).all (jAt mB 67) = true := by kernel_rfl
theorem jV_cj4 : (cj4T.leaves cj4L).all (jAt mB 67) = true := by kernel_rfl
theorem jV_cj5 : (cj5T.leaves cj5L).all (jAt mB 67) = true := by kernel_rfl
theorem jV_cj8 : (cj8T.leaves cj8L).all (jAt mB 67) = true := by kernel_rfl
theorem jV_cj11 : (cj11T.leaves cj11L).all (jAt mB 67) = true := by kernel_rfl
theorem jV_cj12 : (cj12T.leaves cj12L).all (jAt mB 67) = true := by kernel_rfl
theorem jV_cj13 : (cj13T.leaves cj13L).all (jAt mB 67) = true := by kernel_rfl
theorem jV_cj14 : (cj14T.leaves cj14L).all (jAt mB 67) = true := by kernel_rfl
theorem jV_cj3 : (cj3T.leaves cj3L).all (jAt mB 67) = true := by
  have e : cj3T.leaves cj3L = cj4T.leaves cj4L ++ cj5T.leaves cj5L := rfl
  rw [e]
  simp only [List.all_append, jV_cj4, jV_cj5, Bool.and_self]
theorem jV_cj1 : (cj1T.leaves cj1L).all (jAt mB 67) = true := by
  have e : cj1T.leaves cj1L = cj2T.leaves cj2L ++ cj3T.leaves cj3L := rfl
  rw [e]
  simp only [List.all_append, jV_cj2, jV_cj3, Bool.and_self]
theorem jV_cj10 : (cj10T.leaves cj10L).all (jAt mB 67) = true := by
  have e : cj10T.leaves cj10L = cj11T.leaves cj11L ++ cj12T.leaves cj12L := rfl
  rw [e]
  simp only [List.all_append, jV_cj11, jV_cj12, Bool.and_self]
theorem jV_cj9 : (cj9T.leaves cj9L).all (jAt mB 67) = true := by
  have e : cj9T.leaves cj9L = cj10T.leaves cj10L ++ cj13T.leaves cj13L := rfl
  rw [e]
  simp only [List.all_append, jV_cj10, jV_cj13, Bool.and_self]
theorem jV_cj7 : (cj7T.leaves cj7L).all (jAt mB 67) = true := by
  have e : cj7T.leaves cj7L = cj8T.leaves cj8L ++ cj9T.leaves cj9L := rfl
  rw [e]
  simp only [List.all_append, jV_cj8, jV_cj9, Bool.and_self]
theorem jV_cj6 : (cj6T.leaves cj6L).all (jAt mB 67) = true := by
  have e : cj6T.leaves cj6L = cj7T.leaves cj7L ++ cj14T.leaves cj14L := rfl
  rw [e]
  simp only [List.all_append, jV_cj7, jV_cj14, Bool.and_self]
theorem jV_cj0 : (cj0T.leaves cj0L).all (jAt mB 67) = true := by
  have e : cj0T.leaves cj0L = cj1T.leaves cj1L ++ cj6T.leaves cj6L := rfl
  rw [e]
  simp only [List.all_append, jV_cj1, jV_cj6, Bool.and_self]
theorem jV_tests : TestsJ 67 .bool := jump_tests mB_ok (sp := cj0T) jV_cj0
end Go.Proofs.Ytbebbbclhgjcbaa.Am
