/- PlaceOrder: its answer at any arguments: true. -/
import Derived.Test.YtncbkjokabgkbaaDoorPlaceOrderR0
namespace Go.Proofs.YtncbkjokabgkbaaDoor.placeOrder
open Go.RowKit Go.Proofs.YtncbkjokabgkbaaDoor.Am
theorem run : ((sp.leaves (Lf.start gs)).all fun L => tells true (@runs (L.know (strsT 0 (kindsT gs))) (tyOf Tryd.prog) (fnOf Tryd.prog) alive03O 100 20 6 ((argsT 0 gs).map L.nA) ⟨[], 0⟩ 0)) = true := by
  show (sp.leaves (Lf.start gs)).all good = true
  rw [leaves_eq]
  simp only [List.all_append, run0, run1, run2, run3, run4, run5, run6, run7, run8, run9, Bool.and_self]
theorem walk {w : World} (h : ErrOk w) {vs cs : List Value} (k : Gps gs vs cs) : Calls Tryd.prog 6 vs.toArray w fun e w' => e = .returned (.bool true) ∧ Below w.heap.size w w' :=
  law_cases h.size (fun L => @runs (L.know (strsT 0 (kindsT gs))) (tyOf Tryd.prog) (fnOf Tryd.prog) alive03O 100 20) (fun _ {rho sig} hh kk =>
    have ok := Lf.ok hh kk
    @sound_runs w _ rho sig ok _ (sound_alive03 h ok) 100 20) run k
end Go.Proofs.YtncbkjokabgkbaaDoor.placeOrder
