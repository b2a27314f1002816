/- LoansNames: the run over the table, by the kernel: true. -/
import Derived.Test.YthdcahkedlijpaaGreatLoansNamesT0
import Derived.Test.YthdcahkedlijpaaGreatLoansNamesT1
import Derived.Test.YthdcahkedlijpaaGreatLoansNamesT2
namespace Go.Proofs.YthdcahkedlijpaaGreat.loansNames
open Go.RowKit Go.Proofs.YthdcahkedlijpaaGreat.Am
set_option maxHeartbeats 20000000
set_option maxRecDepth 100000
def gs : List Gp := []
def tab : List RRow := t0 ++ (t1 ++ (t2 ++ (t3 ++ (t4 ++ (t5 ++ (t6 ++ (t7 ++ (t8 ++ (t9)))))))))
theorem rows : tab.all (rrowOk (@runs Know.nought (tyOf Tryz.prog) (fnOf Tryz.prog) noneO 200 40) 100000) = true := by
  show (t0 ++ (t1 ++ (t2 ++ (t3 ++ (t4 ++ (t5 ++ (t6 ++ (t7 ++ (t8 ++ (t9)))))))))).all _ = true
  rw [List.all_append, List.all_append, List.all_append, List.all_append, List.all_append, List.all_append, List.all_append, List.all_append, List.all_append, row0, row1, row2, row3, row4, row5, row6, row7, row8, row9]
  rfl
noncomputable def tabO : Oracle := fun f a h fl => orR (rrowO 100000 tab f a h fl) (noneO f a h fl)
theorem run : tells true (@runs Know.nought (tyOf Tryz.prog) (fnOf Tryz.prog) tabO 200 40 4 [] ⟨[], 0⟩ 0) = true := by kernel_rfl
theorem closed (w : World)  : Calls Tryz.prog 4 #[] w fun e w' => e = .returned (.bool true) ∧ Below w.heap.size w w' := by
  have ok := KnowOk.nought (fun _ => 0) (fun _ => [])
  have hs := @sound_noneO w _ _ _ ok
  letI : Base := baseN w ok
  have ht : Sound Tryz.prog tabO := sound_or (sound_rrow (sound_runsN ok hs 200 40) rows) hs
  exact calls_closed w (Nat.zero_le _) (sound_runsN ok ht 200 40) run
theorem walk {w : World}  {vs cs : List Value} (k : Gps gs vs cs) : Calls Tryz.prog 4 vs.toArray w fun e w' => e = .returned (.bool true) ∧ Below w.heap.size w w' := by
  cases vs with
  | nil => exact closed w 
  | cons _ _ => exact k.elim
end Go.Proofs.YthdcahkedlijpaaGreat.loansNames
