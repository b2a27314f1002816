/- alive of chapter 07 answers true, whoever calls. -/
import Derived.Test.YtbebbbclhgjcbaaFn29
import Derived.Test.YtbebbbclhgjcbaaLn
namespace Go.Proofs.Ytbebbbclhgjcbaa.Am
open Go.RowKit
set_option maxRecDepth 100000
theorem alive07_run : tells true (@runs Know.nought (tyOf Try.prog) (fnOf Try.prog) noneO 100 40 17 [] ⟨[], 0⟩ 0) = true := by kernel_rfl
theorem alive07 (w : World) : Calls Try.prog 17 #[] w fun e w' => e = .returned (.bool true) ∧ Below w.heap.size w w' := by
  have ok := KnowOk.nought (fun _ => 0) (fun _ => [])
  have hs := @sound_noneO w _ _ _ ok
  letI : Base := baseN w ok
  exact calls_closed w (Nat.zero_le _) (sound_runsN ok hs 100 40) alive07_run
end Go.Proofs.Ytbebbbclhgjcbaa.Am
