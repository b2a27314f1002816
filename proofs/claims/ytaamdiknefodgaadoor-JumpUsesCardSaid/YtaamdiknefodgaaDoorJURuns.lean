/- JumpUses: the runs. -/
import Derived.Test.YtaamdiknefodgaaDoorJULoopC
namespace Go.Proofs.YtaamdiknefodgaaDoor.jumpUses
open Go.RowKit Go.Proofs.YtaamdiknefodgaaDoor.Am
set_option maxRecDepth 100000
theorem in_1 : ((List.range 16).all (allI 1)) = true := by kernel_rfl
theorem in_2 : ((List.range 16).all (allI 2)) = true := by kernel_rfl
theorem in_3 : ((List.range 16).all (allI 3)) = true := by kernel_rfl
theorem in_last : (lastI 1 && (lastI 2 && lastI 3)) = true := by kernel_rfl
theorem out_1 : stepO 1 = true := by kernel_rfl
theorem out_2 : stepO 2 = true := by kernel_rfl
theorem out_3 : stepO 3 = true := by kernel_rfl
theorem out_pre : preO = true := by kernel_rfl
theorem out_last : (lastO false false && (lastO false true && lastO true false)) = true := by kernel_rfl
/-! the first piece -/
def few (a b c : Nat) : List (Nat × Nat) := ((List.range (b + 1)).filter (Nat.ble a)).flatMap fun nu => ((List.range (nu + 1)).filter fun m => Nat.ble m c).map fun nm => (nu, nm)
def callL (z n : Nat) : List C1 := (few 0 n n).map fun (p : Nat × Nat) => ⟨3, z, n, true, p.1, p.2⟩
def callP (z n : Nat) : List C1 := (few 0 (n + 1) n).map fun (p : Nat × Nat) => ⟨3, z, n, false, p.1, p.2⟩
theorem s_goto : ([⟨1, 0, 0, false, 0, 0⟩, ⟨1, 1, 0, false, 0, 0⟩] : List C1).all ok1 = true := by kernel_rfl
theorem s_branch : (([0, 1].flatMap fun z => (few 0 1 1).map fun (p : Nat × Nat) => (⟨2, z, 0, false, p.1, p.2⟩ : C1)).all ok1) = true := by kernel_rfl
theorem s_0 : ((callL 0 0 ++ callP 0 0 ++ (callL 1 0 ++ callP 1 0)).all ok1) = true := by kernel_rfl
theorem s_1 : ((callL 2 1 ++ callP 2 1).all ok1) = true := by kernel_rfl
theorem s_2 : ((callL 2 2 ++ callP 2 2).all ok1) = true := by kernel_rfl
theorem s_3 : ((callL 2 3 ++ callP 2 3).all ok1) = true := by kernel_rfl
theorem s_4 : ((callL 2 4 ++ callP 2 4).all ok1) = true := by kernel_rfl
theorem s_5 : ((callL 2 5 ++ callP 2 5).all ok1) = true := by kernel_rfl
theorem s_6 : ((callL 2 6 ++ callP 2 6).all ok1) = true := by kernel_rfl
theorem s_7 : ((callL 2 7 ++ callP 2 7).all ok1) = true := by kernel_rfl
theorem s_8 : ((callL 2 8 ++ callP 2 8).all ok1) = true := by kernel_rfl
end Go.Proofs.YtaamdiknefodgaaDoor.jumpUses
