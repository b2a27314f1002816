/- FnshapeParts: the law's loop over blocks, where the jump uses locals. -/
import Derived.Test.YtbebbbclhgjcbaaGreatFn32
namespace Go.Proofs.YtbebbbclhgjcbaaGreat.parts
open Go.RowKit Go.Proofs.YtbebbbclhgjcbaaGreat.Am
set_option maxRecDepth 100000
noncomputable def oneM (k : Nat) : Bool := stepO (numsX 99 (k + 1)) (99 + k) (LO.less 97 (99 + k))
noncomputable def oneE (k : Nat) : Bool := stepO (numsX 99 k ++ [xi 97]) 97 LO
noncomputable def oneL (k : Nat) : Bool := stepO (numsX 99 (k + 1)) 97 (LO.less (99 + k) 97)
noncomputable def some4 (p : Nat → Bool) (o : Nat) : Bool := (List.range 4).all fun k => p (4 * o + k)
theorem stepM0 : some4 oneM 0 = true := by kernel_rfl
theorem stepM1 : some4 oneM 1 = true := by kernel_rfl
theorem stepM2 : some4 oneM 2 = true := by kernel_rfl
theorem stepM3 : some4 oneM 3 = true := by kernel_rfl
theorem stepE0 : some4 oneE 0 = true := by kernel_rfl
theorem stepE1 : some4 oneE 1 = true := by kernel_rfl
theorem stepE2 : some4 oneE 2 = true := by kernel_rfl
theorem stepE3 : some4 oneE 3 = true := by kernel_rfl
theorem stepL0 : some4 oneL 0 = true := by kernel_rfl
theorem stepL1 : some4 oneL 1 = true := by kernel_rfl
theorem stepL2 : some4 oneL 2 = true := by kernel_rfl
theorem stepL3 : some4 oneL 3 = true := by kernel_rfl
theorem some_of {p : Nat → Bool} (h0 : some4 p 0 = true) (h1 : some4 p 1 = true) (h2 : some4 p 2 = true) (h3 : some4 p 3 = true) {k : Nat} (hk : k < 16) : p k = true := by
  have key : ∀ {o : Nat}, some4 p o = true → ∀ j, j < 4 → p (4 * o + j) = true := fun h j hj => List.all_eq_true.1 h j (List.mem_range.2 hj)
  have e : k = 4 * (k / 4) + k % 4 := by omega
  have hm : k % 4 < 4 := by omega
  have : k / 4 = 0 ∨ k / 4 = 1 ∨ k / 4 = 2 ∨ k / 4 = 3 := by omega
  rw [e]
  rcases this with q | q | q | q <;> rw [q]
  · exact key h0 _ hm
  · exact key h1 _ hm
  · exact key h2 _ hm
  · exact key h3 _ hm
theorem allM {k : Nat} (hk : k < 16) : oneM k = true := some_of stepM0 stepM1 stepM2 stepM3 hk
theorem allE {k : Nat} (hk : k < 16) : oneE k = true := some_of stepE0 stepE1 stepE2 stepE3 hk
theorem allL {k : Nat} (hk : k < 16) : oneL k = true := some_of stepL0 stepL1 stepL2 stepL3 hk
end Go.Proofs.YtbebbbclhgjcbaaGreat.parts
