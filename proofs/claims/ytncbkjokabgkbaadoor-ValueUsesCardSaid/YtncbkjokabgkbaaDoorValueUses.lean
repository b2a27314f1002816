/- ValueUses: its answer at any arguments: true. -/
import Derived.Test.YtncbkjokabgkbaaDoorValueUsesR0
import Derived.Test.YtncbkjokabgkbaaDoorValueUsesR1
namespace Go.Proofs.YtncbkjokabgkbaaDoor.valueUses
open Go.RowKit Go.Proofs.YtncbkjokabgkbaaDoor.Am
set_option linter.unusedVariables false
set_option maxHeartbeats 20000000
set_option maxRecDepth 100000
theorem leaves_eq : sp.leaves (Lf.startX gs pls.length) = ls0 ++ (ls1 ++ (ls2 ++ (ls3 ++ (ls4 ++ (ls5 ++ (ls6 ++ (ls7 ++ (ls8 ++ (ls9 ++ (ls10 ++ (ls11 ++ (ls12 ++ (ls13 ++ (ls14)))))))))))))) := by kernel_rfl
theorem run : ((sp.leaves (Lf.startX gs pls.length)).all fun L => tells true (@runs (L.know (strsT 0 (kindsT gs))) (tyOf Tryd.prog) (fnOf Tryd.prog) (orcX L (kindsT gs) pls alive04O) 100 25 13 ((argsT 0 gs).map L.nA) ⟨[], 0⟩ 0)) = true := by
  show (sp.leaves (Lf.startX gs pls.length)).all good = true
  rw [leaves_eq]
  simp only [List.all_append, run0, run1, run2, run3, run4, run5, run6, run7, run8, run9, run10, run11, run12, run13, run14, Bool.and_self]
theorem walk {w : World} (h : TabOk w) {vs cs : List Value} (k : Gps gs vs cs) : Calls Tryd.prog 13 vs.toArray w fun e w' => e = .returned (.bool true) ∧ Below w.heap.size w w' :=
 by
  have hk : (kindsT gs).length = cs.length := k.kinds.len
  have he : PlE (kindsT gs).length pls (rhoOf (withX cs (plX cs pls))) (sigOf (withX cs (plX cs pls))) := by
    rw [hk]
    refine plX_E ?_
    rw [← hk]
    kernel_rfl
  exact law_casesX h.size (PlE (kindsT gs).length pls) (fun L => @runs (L.know (strsT 0 (kindsT gs))) (tyOf Tryd.prog) (fnOf Tryd.prog) (orcX L (kindsT gs) pls alive04O) 100 25) (fun L {rho sig} hh kk dd ee =>
    @sound_runs w _ rho sig (Lf.ok hh kk) _ (sound_orcX hh kk dd ee h (sound_alive04 h _)) 100 25) run k (by simp [plX]) (plX_len _ _) he
end Go.Proofs.YtncbkjokabgkbaaDoor.valueUses
