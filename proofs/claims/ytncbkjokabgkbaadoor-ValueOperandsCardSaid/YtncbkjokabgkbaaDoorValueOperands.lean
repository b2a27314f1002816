/- ValueOperands: its answer at any arguments: true. -/
import Derived.Test.YtncbkjokabgkbaaDoorValueOperandsR0
import Derived.Test.YtncbkjokabgkbaaDoorValueOperandsR1
namespace Go.Proofs.YtncbkjokabgkbaaDoor.valueOperands
open Go.RowKit Go.Proofs.YtncbkjokabgkbaaDoor.Am
set_option maxHeartbeats 20000000
set_option maxRecDepth 100000
theorem leaves_eq : sp.leaves (Lf.start gs) = ls0 ++ (ls1 ++ (ls2 ++ (ls3 ++ (ls4 ++ (ls5 ++ (ls6 ++ (ls7 ++ (ls8)))))))) := by kernel_rfl
theorem run : ((sp.leaves (Lf.start gs)).all fun L => tells true (@runs (L.know (strsT 0 (kindsT gs))) (tyOf Tryd.prog) (fnOf Tryd.prog) (numXO (kindsT gs)) 100 25 4 ((argsT 0 gs).map L.nA) ⟨[], 0⟩ 0)) = true := by
  show (sp.leaves (Lf.start gs)).all good = true
  rw [leaves_eq]
  simp only [List.all_append, run0, run1, run2, run3, run4, run5, run6, run7, run8, Bool.and_self]
theorem walk {w : World} (h : TabOk w) {vs cs : List Value} (k : Gps gs vs cs) : Calls Tryd.prog 4 vs.toArray w fun e w' => e = .returned (.bool true) ∧ Below w.heap.size w w' :=
  law_cases h.size (fun L => @runs (L.know (strsT 0 (kindsT gs))) (tyOf Tryd.prog) (fnOf Tryd.prog) (numXO (kindsT gs)) 100 25) (fun _ {rho sig} hh kk dd =>
    have ok := Lf.ok hh kk
    @sound_runs w _ rho sig ok _ (sound_numX ok dd h) 100 25) run k
end Go.Proofs.YtncbkjokabgkbaaDoor.valueOperands
