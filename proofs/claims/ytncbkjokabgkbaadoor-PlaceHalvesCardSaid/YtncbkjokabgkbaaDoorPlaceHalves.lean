/- PlaceHalves: its answer at any arguments: true. -/
import Derived.Test.YtncbkjokabgkbaaDoorPlaceHalvesR0
namespace Go.Proofs.YtncbkjokabgkbaaDoor.placeHalves
open Go.RowKit Go.Proofs.YtncbkjokabgkbaaDoor.Am
theorem run : ((sp.leaves (Lf.start gs)).all fun L => tells true (@runs (L.know (strsT 0 (kindsT gs))) (tyOf Tryd.prog) (fnOf Tryd.prog) alive03O 100 20 7 ((argsT 0 gs).map L.nA) ⟨[], 0⟩ 0)) = true := by
  show (sp.leaves (Lf.start gs)).all good = true
  rw [leaves_eq]
  exact run0
theorem walk {w : World} (h : ErrOk w) {vs cs : List Value} (k : Gps gs vs cs) : Calls Tryd.prog 7 vs.toArray w fun e w' => e = .returned (.bool true) ∧ Below w.heap.size w w' :=
  law_cases h.size (fun L => @runs (L.know (strsT 0 (kindsT gs))) (tyOf Tryd.prog) (fnOf Tryd.prog) alive03O 100 20) (fun _ {rho sig} hh kk =>
    have ok := Lf.ok hh kk
    @sound_runs w _ rho sig ok _ (sound_alive03 h ok) 100 20) run k
end Go.Proofs.YtncbkjokabgkbaaDoor.placeHalves
