/- FnshapeNames: the run over the table, by the kernel: true. -/
import Derived.Test.YtbebbbclhgjcbaaFnshapeNamesT0
import Derived.Test.YtbebbbclhgjcbaaFnshapeNamesT1
import Derived.Test.YtbebbbclhgjcbaaFnshapeNamesT2
import Derived.Test.YtbebbbclhgjcbaaFnshapeNamesT3
namespace Go.Proofs.Ytbebbbclhgjcbaa.fnshapeNames
open Go.RowKit Go.Proofs.Ytbebbbclhgjcbaa.Am
set_option maxHeartbeats 20000000
set_option maxRecDepth 100000
def gs : List Gp := []
def tab : List RRow := t0 ++ (t1 ++ (t2 ++ (t3 ++ (t4 ++ (t5 ++ (t6 ++ (t7)))))))
theorem rows : tab.all (rrowOk (@runs Know.nought (tyOf Try.prog) (fnOf Try.prog) noneO 100 40) 100000) = true := by
  show (t0 ++ (t1 ++ (t2 ++ (t3 ++ (t4 ++ (t5 ++ (t6 ++ (t7)))))))).all _ = true
  rw [List.all_append, List.all_append, List.all_append, List.all_append, List.all_append, List.all_append, List.all_append, row0, row1, row2, row3, row4, row5, row6, row7]
  rfl
noncomputable def tabO : Oracle := fun f a h fl => orR (rrowO 100000 tab f a h fl) (noneO f a h fl)
theorem run : tells true (@runs Know.nought (tyOf Try.prog) (fnOf Try.prog) tabO 100 40 3 [] ⟨[], 0⟩ 0) = true := by kernel_rfl
theorem closed (w : World)  : Calls Try.prog 3 #[] w fun e w' => e = .returned (.bool true) ∧ Below w.heap.size w w' := by
  have ok := KnowOk.nought (fun _ => 0) (fun _ => [])
  have hs := @sound_noneO w _ _ _ ok
  letI : Base := baseN w ok
  have ht : Sound Try.prog tabO := sound_or (sound_rrow (sound_runs ok hs 100 40) rows) hs
  exact calls_closed w (Nat.zero_le _) (sound_runs ok ht 100 40) run
theorem walk {w : World}  {vs cs : List Value} (k : Gps gs vs cs) : Calls Try.prog 3 vs.toArray w fun e w' => e = .returned (.bool true) ∧ Below w.heap.size w w' := by
  cases vs with
  | nil => exact closed w 
  | cons _ _ => exact k.elim
end Go.Proofs.Ytbebbbclhgjcbaa.fnshapeNames
