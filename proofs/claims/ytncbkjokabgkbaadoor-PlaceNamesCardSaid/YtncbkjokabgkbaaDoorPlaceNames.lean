/- PlaceNames: the law's run: the machine's word on it, by the kernel: true. -/
import Derived.Test.YtncbkjokabgkbaaDoorSeat
namespace Go.Proofs.YtncbkjokabgkbaaDoor.placeNames
open Go.RowKit Go.Proofs.YtncbkjokabgkbaaDoor.Am
theorem run : tells true (runs (tyOf Tryd.prog) (fnOf Tryd.prog) atoiO 100 20 9 [] ⟨[], 0⟩ 0) = true := by kernel_rfl
theorem walk (w : World) (h : ErrOk w) : Calls Tryd.prog 9 #[] w fun e w' => e = .returned (.bool true) ∧ Below w.heap.size w w' :=
  calls_closed w h.size (sound_runs (sound_atoi h) 100 20) run

end Go.Proofs.YtncbkjokabgkbaaDoor.placeNames
