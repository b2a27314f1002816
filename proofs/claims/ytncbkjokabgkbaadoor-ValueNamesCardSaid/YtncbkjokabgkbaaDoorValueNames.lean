/- ValueNames: the law's run: the machine's word on it, by the kernel: true. -/
import Derived.Test.YtncbkjokabgkbaaDoorSeat
namespace Go.Proofs.YtncbkjokabgkbaaDoor.valueNames
open Go.RowKit Go.Proofs.YtncbkjokabgkbaaDoor.Am
theorem run : tells true (runs (tyOf Tryd.prog) (fnOf Tryd.prog) numO 100 20 11 [] ⟨[], 0⟩ 0) = true := by kernel_rfl
theorem walk (w : World) (h : TabOk w) : Calls Tryd.prog 11 #[] w fun e w' => e = .returned (.bool true) ∧ Below w.heap.size w w' :=
  calls_closed w h.size (sound_runs (sound_num h) 100 20) run
end Go.Proofs.YtncbkjokabgkbaaDoor.valueNames
