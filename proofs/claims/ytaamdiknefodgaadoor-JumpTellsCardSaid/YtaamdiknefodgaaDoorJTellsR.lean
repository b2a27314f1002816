/- JumpTells: the runs of its second piece: so many targets, uses, moves. -/
import Derived.Test.YtaamdiknefodgaaDoorJTellsC
namespace Go.Proofs.YtaamdiknefodgaaDoor.jumpTells
open Go.RowKit Go.Proofs.YtaamdiknefodgaaDoor.Am
set_option maxRecDepth 100000
theorem ok_0_0 : ((List.range 9).all fun nm => okG 0 0 nm) = true := by kernel_rfl
theorem ok_0_1 : ((List.range 9).all fun nm => okG 0 1 nm) = true := by kernel_rfl
theorem ok_0_2 : ((List.range 9).all fun nm => okG 0 2 nm) = true := by kernel_rfl
theorem ok_0_3 : ((List.range 9).all fun nm => okG 0 3 nm) = true := by kernel_rfl
theorem ok_0_4 : ((List.range 9).all fun nm => okG 0 4 nm) = true := by kernel_rfl
theorem ok_0_5 : ((List.range 9).all fun nm => okG 0 5 nm) = true := by kernel_rfl
theorem ok_0_6 : ((List.range 9).all fun nm => okG 0 6 nm) = true := by kernel_rfl
theorem ok_0_7 : ((List.range 9).all fun nm => okG 0 7 nm) = true := by kernel_rfl
theorem ok_0_8 : ((List.range 9).all fun nm => okG 0 8 nm) = true := by kernel_rfl
theorem ok_0_9 : ((List.range 9).all fun nm => okG 0 9 nm) = true := by kernel_rfl
theorem ok_1_0 : ((List.range 9).all fun nm => okG 1 0 nm) = true := by kernel_rfl
theorem ok_1_1 : ((List.range 9).all fun nm => okG 1 1 nm) = true := by kernel_rfl
theorem ok_1_2 : ((List.range 9).all fun nm => okG 1 2 nm) = true := by kernel_rfl
theorem ok_1_3 : ((List.range 9).all fun nm => okG 1 3 nm) = true := by kernel_rfl
theorem ok_1_4 : ((List.range 9).all fun nm => okG 1 4 nm) = true := by kernel_rfl
theorem ok_1_5 : ((List.range 9).all fun nm => okG 1 5 nm) = true := by kernel_rfl
theorem ok_1_6 : ((List.range 9).all fun nm => okG 1 6 nm) = true := by kernel_rfl
theorem ok_1_7 : ((List.range 9).all fun nm => okG 1 7 nm) = true := by kernel_rfl
theorem ok_1_8 : ((List.range 9).all fun nm => okG 1 8 nm) = true := by kernel_rfl
theorem ok_1_9 : ((List.range 9).all fun nm => okG 1 9 nm) = true := by kernel_rfl
theorem ok_2_0 : ((List.range 9).all fun nm => okG 2 0 nm) = true := by kernel_rfl
theorem ok_2_1 : ((List.range 9).all fun nm => okG 2 1 nm) = true := by kernel_rfl
theorem ok_2_2 : ((List.range 9).all fun nm => okG 2 2 nm) = true := by kernel_rfl
theorem ok_2_3 : ((List.range 9).all fun nm => okG 2 3 nm) = true := by kernel_rfl
theorem ok_2_4 : ((List.range 9).all fun nm => okG 2 4 nm) = true := by kernel_rfl
theorem ok_2_5 : ((List.range 9).all fun nm => okG 2 5 nm) = true := by kernel_rfl
theorem ok_2_6 : ((List.range 9).all fun nm => okG 2 6 nm) = true := by kernel_rfl
theorem ok_2_7 : ((List.range 9).all fun nm => okG 2 7 nm) = true := by kernel_rfl
theorem ok_2_8 : ((List.range 9).all fun nm => okG 2 8 nm) = true := by kernel_rfl
theorem ok_2_9 : ((List.range 9).all fun nm => okG 2 9 nm) = true := by kernel_rfl
theorem ok_all {np nu nm : Nat} (h1 : np < 3) (h2 : nu < 10) (h3 : nm < 9) : okG np nu nm = true := by
  have e1 : np = 0 ∨ np = 1 ∨ np = 2 := by omega
  have e2 : nu = 0 ∨ nu = 1 ∨ nu = 2 ∨ nu = 3 ∨ nu = 4 ∨ nu = 5 ∨ nu = 6 ∨ nu = 7 ∨ nu = 8 ∨ nu = 9 := by omega
  have m := List.mem_range.2 h3
  rcases e1 with rfl | rfl | rfl <;> rcases e2 with rfl | rfl | rfl | rfl | rfl | rfl | rfl | rfl | rfl | rfl
  · exact List.all_eq_true.1 ok_0_0 nm m
  · exact List.all_eq_true.1 ok_0_1 nm m
  · exact List.all_eq_true.1 ok_0_2 nm m
  · exact List.all_eq_true.1 ok_0_3 nm m
  · exact List.all_eq_true.1 ok_0_4 nm m
  · exact List.all_eq_true.1 ok_0_5 nm m
  · exact List.all_eq_true.1 ok_0_6 nm m
  · exact List.all_eq_true.1 ok_0_7 nm m
  · exact List.all_eq_true.1 ok_0_8 nm m
  · exact List.all_eq_true.1 ok_0_9 nm m
  · exact List.all_eq_true.1 ok_1_0 nm m
  · exact List.all_eq_true.1 ok_1_1 nm m
  · exact List.all_eq_true.1 ok_1_2 nm m
  · exact List.all_eq_true.1 ok_1_3 nm m
  · exact List.all_eq_true.1 ok_1_4 nm m
  · exact List.all_eq_true.1 ok_1_5 nm m
  · exact List.all_eq_true.1 ok_1_6 nm m
  · exact List.all_eq_true.1 ok_1_7 nm m
  · exact List.all_eq_true.1 ok_1_8 nm m
  · exact List.all_eq_true.1 ok_1_9 nm m
  · exact List.all_eq_true.1 ok_2_0 nm m
  · exact List.all_eq_true.1 ok_2_1 nm m
  · exact List.all_eq_true.1 ok_2_2 nm m
  · exact List.all_eq_true.1 ok_2_3 nm m
  · exact List.all_eq_true.1 ok_2_4 nm m
  · exact List.all_eq_true.1 ok_2_5 nm m
  · exact List.all_eq_true.1 ok_2_6 nm m
  · exact List.all_eq_true.1 ok_2_7 nm m
  · exact List.all_eq_true.1 ok_2_8 nm m
  · exact List.all_eq_true.1 ok_2_9 nm m
end Go.Proofs.YtaamdiknefodgaaDoor.jumpTells
