/- StmtPlace: its answer at any arguments: true. -/
import Derived.Test.YtaamdiknefodgaaDoorStmtPlaceR0
import Derived.Test.YtaamdiknefodgaaDoorStmtPlaceR1
import Derived.Test.YtaamdiknefodgaaDoorStmtPlaceR2
import Derived.Test.YtaamdiknefodgaaDoorStmtPlaceR3
namespace Go.Proofs.YtaamdiknefodgaaDoor.stmtPlace
open Go.RowKit Go.Proofs.YtaamdiknefodgaaDoor.Am
set_option linter.unusedVariables false
set_option maxHeartbeats 20000000
set_option maxRecDepth 100000
theorem leaves_eq : sp.leaves (Lf.startX gs pls.length) = ls0 ++ (ls1 ++ (ls2 ++ (ls3 ++ (ls4 ++ (ls5 ++ (ls6 ++ (ls7 ++ (ls8 ++ (ls9 ++ (ls10 ++ (ls11 ++ (ls12 ++ (ls13 ++ (ls14 ++ (ls15 ++ (ls16 ++ (ls17 ++ (ls18 ++ (ls19 ++ (ls20 ++ (ls21 ++ (ls22 ++ (ls23 ++ (ls24 ++ (ls25 ++ (ls26 ++ (ls27 ++ (ls28 ++ (ls29 ++ (ls30 ++ (ls31 ++ (ls32 ++ (ls33 ++ (ls34 ++ (ls35 ++ (ls36 ++ (ls37 ++ (ls38 ++ (ls39 ++ (ls40 ++ (ls41))))))))))))))))))))))))))))))))))))))))) := by kernel_rfl
theorem run : ((sp.leaves (Lf.startX gs pls.length)).all fun L => tells true (@runs (L.know (strsT 0 (kindsT gs))) (tyOf Tryd.prog) (fnOf Tryd.prog) (orcX L (kindsT gs) pls alive05O) 100 25 14 ((argsT 0 gs).map L.nA) ⟨[], 0⟩ 0)) = true := by
  show (sp.leaves (Lf.startX gs pls.length)).all good = true
  rw [leaves_eq]
  simp only [List.all_append, run0, run1, run2, run3, run4, run5, run6, run7, run8, run9, run10, run11, run12, run13, run14, run15, run16, run17, run18, run19, run20, run21, run22, run23, run24, run25, run26, run27, run28, run29, run30, run31, run32, run33, run34, run35, run36, run37, run38, run39, run40, run41, Bool.and_self]
theorem walk {w : World} (h : TabOk w) {vs cs : List Value} (k : Gps gs vs cs) : Calls Tryd.prog 14 vs.toArray w fun e w' => e = .returned (.bool true) ∧ Below w.heap.size w w' :=
 by
  have hk : (kindsT gs).length = cs.length := k.kinds.len
  have he : PlE (kindsT gs).length pls (rhoOf (withX cs (plX cs pls))) (sigOf (withX cs (plX cs pls))) := by
    rw [hk]
    refine plX_E ?_
    rw [← hk]
    kernel_rfl
  exact law_casesX h.size (PlE (kindsT gs).length pls) (fun L => @runs (L.know (strsT 0 (kindsT gs))) (tyOf Tryd.prog) (fnOf Tryd.prog) (orcX L (kindsT gs) pls alive05O) 100 25) (fun L {rho sig} hh kk dd ee =>
    @sound_runs w _ rho sig (Lf.ok hh kk) _ (sound_orcX hh kk dd ee h (sound_alive05 h _)) 100 25) run k (by simp [plX]) (plX_len _ _) he
end Go.Proofs.YtaamdiknefodgaaDoor.stmtPlace
