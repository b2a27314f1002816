/- alive of chapter 21 answers true, whoever calls. -/
import Derived.Test.YthdcahkedlijpaaGreatLoansNames
namespace Go.Proofs.YthdcahkedlijpaaGreat.Am
open Go.RowKit
set_option maxRecDepth 100000
theorem alive21_run : tells true (@runs Know.nought (tyOf Tryz.prog) (fnOf Tryz.prog) loansNames.tabO 200 40 22 [] ⟨[], 0⟩ 0) = true := by kernel_rfl
theorem alive21 (w : World) : Calls Tryz.prog 22 #[] w fun e w' => e = .returned (.bool true) ∧ Below w.heap.size w w' := by
  have ok := KnowOk.nought (fun _ => 0) (fun _ => [])
  have hs := @sound_noneO w _ _ _ ok
  letI : Base := baseN w ok
  have ht : Sound Tryz.prog loansNames.tabO := sound_or (sound_rrow (sound_runsN ok hs 200 40) loansNames.rows) hs
  exact calls_closed w (Nat.zero_le _) (sound_runsN ok ht 200 40) alive21_run
end Go.Proofs.YthdcahkedlijpaaGreat.Am
