/- ValueSpare: its answer at any arguments: true. -/
import Derived.Test.YtncbkjokabgkbaaDoorValueSpareR0
import Derived.Test.YtncbkjokabgkbaaDoorValueSpareR1
import Derived.Test.YtncbkjokabgkbaaDoorValueSpareR2
import Derived.Test.YtncbkjokabgkbaaDoorValueSpareR3
import Derived.Test.YtncbkjokabgkbaaDoorValueSpareR4
import Derived.Test.YtncbkjokabgkbaaDoorValueSpareR5
namespace Go.Proofs.YtncbkjokabgkbaaDoor.valueSpare
open Go.RowKit Go.Proofs.YtncbkjokabgkbaaDoor.Am
set_option linter.unusedVariables false
set_option maxHeartbeats 20000000
set_option maxRecDepth 100000
theorem leaves_eq : sp.leaves (Lf.start gs) = ls0 ++ (ls1 ++ (ls2 ++ (ls3 ++ (ls4 ++ (ls5 ++ (ls6 ++ (ls7 ++ (ls8 ++ (ls9 ++ (ls10 ++ (ls11 ++ (ls12 ++ (ls13 ++ (ls14 ++ (ls15 ++ (ls16 ++ (ls17 ++ (ls18 ++ (ls19 ++ (ls20 ++ (ls21 ++ (ls22 ++ (ls23 ++ (ls24 ++ (ls25 ++ (ls26 ++ (ls27 ++ (ls28 ++ (ls29 ++ (ls30 ++ (ls31 ++ (ls32 ++ (ls33 ++ (ls34 ++ (ls35 ++ (ls36 ++ (ls37 ++ (ls38 ++ (ls39 ++ (ls40 ++ (ls41 ++ (ls42 ++ (ls43 ++ (ls44 ++ (ls45 ++ (ls46 ++ (ls47 ++ (ls48 ++ (ls49 ++ (ls50 ++ (ls51 ++ (ls52 ++ (ls53 ++ (ls54 ++ (ls55 ++ (ls56 ++ (ls57 ++ (ls58 ++ (ls59 ++ (ls60 ++ (ls61 ++ (ls62 ++ (ls63))))))))))))))))))))))))))))))))))))))))))))))))))))))))))))))) := by kernel_rfl
theorem run : ((sp.leaves (Lf.start gs)).all fun L => tells true (@runs (L.know (strsT 0 (kindsT gs))) (tyOf Tryd.prog) (fnOf Tryd.prog) alive04O 100 25 15 ((argsT 0 gs).map L.nA) ⟨[], 0⟩ 0)) = true := by
  show (sp.leaves (Lf.start gs)).all good = true
  rw [leaves_eq]
  simp only [List.all_append, run0, run1, run2, run3, run4, run5, run6, run7, run8, run9, run10, run11, run12, run13, run14, run15, run16, run17, run18, run19, run20, run21, run22, run23, run24, run25, run26, run27, run28, run29, run30, run31, run32, run33, run34, run35, run36, run37, run38, run39, run40, run41, run42, run43, run44, run45, run46, run47, run48, run49, run50, run51, run52, run53, run54, run55, run56, run57, run58, run59, run60, run61, run62, run63, Bool.and_self]
theorem walk {w : World} (h : TabOk w) {vs cs : List Value} (k : Gps gs vs cs) : Calls Tryd.prog 15 vs.toArray w fun e w' => e = .returned (.bool true) ∧ Below w.heap.size w w' :=
  law_cases h.size (fun L => @runs (L.know (strsT 0 (kindsT gs))) (tyOf Tryd.prog) (fnOf Tryd.prog) alive04O 100 25) (fun _ {rho sig} hh kk dd =>
    have ok := Lf.ok hh kk
    @sound_runs w _ rho sig ok _ (sound_alive04 h ok) 100 25) run k
end Go.Proofs.YtncbkjokabgkbaaDoor.valueSpare
