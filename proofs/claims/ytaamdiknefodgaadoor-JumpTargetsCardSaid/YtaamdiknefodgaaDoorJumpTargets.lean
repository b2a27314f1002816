/- JumpTargets: its answer at any jump: true. -/
import Derived.Test.YtaamdiknefodgaaDoorJumpTargetsR0
import Derived.Test.YtaamdiknefodgaaDoorJumpTargetsR1
import Derived.Test.YtaamdiknefodgaaDoorJumpTargetsR2
import Derived.Test.YtaamdiknefodgaaDoorJumpTargetsR3
namespace Go.Proofs.YtaamdiknefodgaaDoor.jumpTargets
open Go.RowKit Go.Proofs.YtaamdiknefodgaaDoor.Am
set_option maxHeartbeats 20000000
set_option maxRecDepth 100000
theorem leaves_eq : sp.leaves startJ = ls0 ++ (ls1 ++ (ls2 ++ (ls3 ++ (ls4 ++ (ls5 ++ (ls6 ++ (ls7 ++ (ls8 ++ (ls9 ++ (ls10 ++ (ls11 ++ (ls12 ++ (ls13 ++ (ls14 ++ (ls15 ++ (ls16 ++ (ls17 ++ (ls18)))))))))))))))))) := by kernel_rfl
theorem run : ((sp.leaves startJ).all fun L => tells true (runJ 5 alive06O L)) = true := by
  show (sp.leaves startJ).all good = true
  rw [leaves_eq]
  simp only [List.all_append, run0, run1, run2, run3, run4, run5, run6, run7, run8, run9, run10, run11, run12, run13, run14, run15, run16, run17, run18, Bool.and_self]
theorem walk {w : World} (h : TabOk w) {v : Value} {pre : List Value} {sv : Value} {post : List Value} {els : List (List Value)} (hj : JumpIs w v pre sv post els) : Calls Tryd.prog 5 #[v] w fun e w' => e = .returned (.bool true) ∧ Below w.heap.size w w' :=
  law_jump (more := fun _ => alive06O) run (fun b _ hb hg _ => sound_alive06 h b hb hg) hj
end Go.Proofs.YtaamdiknefodgaaDoor.jumpTargets
