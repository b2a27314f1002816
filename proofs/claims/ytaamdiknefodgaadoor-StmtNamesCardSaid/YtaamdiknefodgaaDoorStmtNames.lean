/- StmtNames: the law's run: the machine's word on it, by the kernel: true. -/
import Derived.Test.YtaamdiknefodgaaDoorSeat
import Derived.Test.YtaamdiknefodgaaDoorAlive05
namespace Go.Proofs.YtaamdiknefodgaaDoor.stmtNames
open Go.RowKit Go.Proofs.YtaamdiknefodgaaDoor.Am
set_option maxHeartbeats 20000000
abbrev nil0 := KnowOk.nought (fun _ => 0) (fun _ => [])
theorem run : tells true (@runs Know.nought (tyOf Tryd.prog) (fnOf Tryd.prog) numI 100 25 9 [] ⟨[], 0⟩ 0) = true := by kernel_rfl
theorem walk (w : World) (h : TabOk w) : Calls Tryd.prog 9 #[] w fun e w' => e = .returned (.bool true) ∧ Below w.heap.size w w' :=
  calls_closed w h.size (sound_runs nil0 (sound_numI nil0 h) 100 25) run
end Go.Proofs.YtaamdiknefodgaaDoor.stmtNames
