/- JumpUses: the runs of its second piece. JumpUses: the runs of its second piece. JumpUses: the runs of its second piece. -/
import Derived.Test.YtaamdiknefodgaaDoorJULoopC
/-! JumpUses: the runs of its second piece. -/
namespace Go.Proofs.YtaamdiknefodgaaDoor.jumpUses
open Go.RowKit Go.Proofs.YtaamdiknefodgaaDoor.Am
set_option maxRecDepth 100000
theorem e_1_0 : (((List.range 1).flatMap fun nm => [(⟨1, 0, nm, 0⟩ : Cu), ⟨1, 0, nm, 1⟩]).all ok2) = true := by kernel_rfl
theorem e_1_1 : (((List.range 2).flatMap fun nm => [(⟨1, 1, nm, 0⟩ : Cu), ⟨1, 1, nm, 1⟩]).all ok2) = true := by kernel_rfl
theorem e_1_2 : (((List.range 3).flatMap fun nm => [(⟨1, 2, nm, 0⟩ : Cu), ⟨1, 2, nm, 1⟩]).all ok2) = true := by kernel_rfl
theorem e_1_3 : (((List.range 4).flatMap fun nm => [(⟨1, 3, nm, 0⟩ : Cu), ⟨1, 3, nm, 1⟩]).all ok2) = true := by kernel_rfl
theorem e_1_4 : (((List.range 5).flatMap fun nm => [(⟨1, 4, nm, 0⟩ : Cu), ⟨1, 4, nm, 1⟩]).all ok2) = true := by kernel_rfl
theorem e_1_5 : (((List.range 6).flatMap fun nm => [(⟨1, 5, nm, 0⟩ : Cu), ⟨1, 5, nm, 1⟩]).all ok2) = true := by kernel_rfl
theorem e_1_6 : (((List.range 7).flatMap fun nm => [(⟨1, 6, nm, 0⟩ : Cu), ⟨1, 6, nm, 1⟩]).all ok2) = true := by kernel_rfl
theorem e_1_7 : (((List.range 8).flatMap fun nm => [(⟨1, 7, nm, 0⟩ : Cu), ⟨1, 7, nm, 1⟩]).all ok2) = true := by kernel_rfl
theorem e_1_8 : (((List.range 9).flatMap fun nm => [(⟨1, 8, nm, 0⟩ : Cu), ⟨1, 8, nm, 1⟩]).all ok2) = true := by kernel_rfl
theorem e_4 : ([(⟨4, 1, 0, 0⟩ : Cu), ⟨4, 1, 0, 1⟩].all ok2) = true := by kernel_rfl
theorem e_5_0 : (((List.range 1).flatMap fun nm => [(⟨5, 0, nm, 0⟩ : Cu), ⟨5, 0, nm, 1⟩]).all ok2) = true := by kernel_rfl
theorem e_5_1 : (((List.range 2).flatMap fun nm => [(⟨5, 1, nm, 0⟩ : Cu), ⟨5, 1, nm, 1⟩]).all ok2) = true := by kernel_rfl
theorem e_6 : ([(⟨6, 0, 0, 0⟩ : Cu), ⟨6, 0, 0, 1⟩].all ok2) = true := by kernel_rfl
end Go.Proofs.YtaamdiknefodgaaDoor.jumpUses
/-! JumpUses: the runs of its second piece. -/
namespace Go.Proofs.YtaamdiknefodgaaDoor.jumpUses
open Go.RowKit Go.Proofs.YtaamdiknefodgaaDoor.Am
set_option maxRecDepth 100000
theorem e_2_0 : (((List.range 1).flatMap fun nm => [(⟨2, 0, nm, 0⟩ : Cu), ⟨2, 0, nm, 1⟩]).all ok2) = true := by kernel_rfl
theorem e_2_1 : (((List.range 2).flatMap fun nm => [(⟨2, 1, nm, 0⟩ : Cu), ⟨2, 1, nm, 1⟩]).all ok2) = true := by kernel_rfl
theorem e_2_2 : (((List.range 3).flatMap fun nm => [(⟨2, 2, nm, 0⟩ : Cu), ⟨2, 2, nm, 1⟩]).all ok2) = true := by kernel_rfl
theorem e_2_3 : (((List.range 4).flatMap fun nm => [(⟨2, 3, nm, 0⟩ : Cu), ⟨2, 3, nm, 1⟩]).all ok2) = true := by kernel_rfl
theorem e_2_4 : (((List.range 5).flatMap fun nm => [(⟨2, 4, nm, 0⟩ : Cu), ⟨2, 4, nm, 1⟩]).all ok2) = true := by kernel_rfl
theorem e_2_5 : (((List.range 6).flatMap fun nm => [(⟨2, 5, nm, 0⟩ : Cu), ⟨2, 5, nm, 1⟩]).all ok2) = true := by kernel_rfl
theorem e_2_6 : (((List.range 7).flatMap fun nm => [(⟨2, 6, nm, 0⟩ : Cu), ⟨2, 6, nm, 1⟩]).all ok2) = true := by kernel_rfl
theorem e_2_7 : (((List.range 8).flatMap fun nm => [(⟨2, 7, nm, 0⟩ : Cu), ⟨2, 7, nm, 1⟩]).all ok2) = true := by kernel_rfl
theorem e_2_8 : (((List.range 9).flatMap fun nm => [(⟨2, 8, nm, 0⟩ : Cu), ⟨2, 8, nm, 1⟩]).all ok2) = true := by kernel_rfl
theorem e_2_9 : (((List.range 9).flatMap fun nm => [(⟨2, 9, nm, 0⟩ : Cu), ⟨2, 9, nm, 1⟩]).all ok2) = true := by kernel_rfl
end Go.Proofs.YtaamdiknefodgaaDoor.jumpUses
/-! JumpUses: the runs of its second piece. -/
namespace Go.Proofs.YtaamdiknefodgaaDoor.jumpUses
open Go.RowKit Go.Proofs.YtaamdiknefodgaaDoor.Am
set_option maxRecDepth 100000
theorem e_3_0 : (((List.range 1).flatMap fun nm => [(⟨3, 0, nm, 0⟩ : Cu), ⟨3, 0, nm, 1⟩]).all ok2) = true := by kernel_rfl
theorem e_3_1 : (((List.range 2).flatMap fun nm => [(⟨3, 1, nm, 0⟩ : Cu), ⟨3, 1, nm, 1⟩]).all ok2) = true := by kernel_rfl
theorem e_3_2 : (((List.range 3).flatMap fun nm => [(⟨3, 2, nm, 0⟩ : Cu), ⟨3, 2, nm, 1⟩]).all ok2) = true := by kernel_rfl
theorem e_3_3 : (((List.range 4).flatMap fun nm => [(⟨3, 3, nm, 0⟩ : Cu), ⟨3, 3, nm, 1⟩]).all ok2) = true := by kernel_rfl
theorem e_3_4 : (((List.range 5).flatMap fun nm => [(⟨3, 4, nm, 0⟩ : Cu), ⟨3, 4, nm, 1⟩]).all ok2) = true := by kernel_rfl
theorem e_3_5 : (((List.range 6).flatMap fun nm => [(⟨3, 5, nm, 0⟩ : Cu), ⟨3, 5, nm, 1⟩]).all ok2) = true := by kernel_rfl
theorem e_3_6 : (((List.range 7).flatMap fun nm => [(⟨3, 6, nm, 0⟩ : Cu), ⟨3, 6, nm, 1⟩]).all ok2) = true := by kernel_rfl
theorem e_3_7 : (((List.range 8).flatMap fun nm => [(⟨3, 7, nm, 0⟩ : Cu), ⟨3, 7, nm, 1⟩]).all ok2) = true := by kernel_rfl
theorem e_3_8 : (((List.range 9).flatMap fun nm => [(⟨3, 8, nm, 0⟩ : Cu), ⟨3, 8, nm, 1⟩]).all ok2) = true := by kernel_rfl
theorem e_3_9 : (((List.range 9).flatMap fun nm => [(⟨3, 9, nm, 0⟩ : Cu), ⟨3, 9, nm, 1⟩]).all ok2) = true := by kernel_rfl
end Go.Proofs.YtaamdiknefodgaaDoor.jumpUses
