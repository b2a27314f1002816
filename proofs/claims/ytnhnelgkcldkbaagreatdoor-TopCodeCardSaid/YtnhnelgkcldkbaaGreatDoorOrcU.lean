/- All oracles of a law over places: texts of places, Increasing, numbers to digits, and one more. -/
import Derived.Test.YtnhnelgkcldkbaaGreatDoorLx
import Derived.Test.YtnhnelgkcldkbaaGreatDoorPlaceU
import Derived.Test.YtnhnelgkcldkbaaGreatDoorInc
namespace Go.Proofs.YtnhnelgkcldkbaaGreatDoor.Am
open Go.RowKit
noncomputable def orcX (L : Lf) (ks : List Kd) (pls : List Pl) (more : Oracle) : Oracle := fun f a h fl =>
  orR (more f a h fl) (orR (plO L ks.length pls f a h fl) (orR (incO (L.know (strsT 0 ks)) f a h fl) (numXO ks f a h fl)))
section
variable {w0 : World} {rho : Nat → Int} {sig : Nat → List UInt8} {L : Lf} {ks : List Kd} {pls : List Pl}
theorem sound_orcX (hL : L.Holds rho sig) (kk : Lens (strsT 0 ks) rho sig) (d : Dec ks rho sig) (e : PlE ks.length pls rho sig) (k : TabOk w0) {more : Oracle} (hm : @Sound (base0 w0 (Lf.ok hL kk)) Tryz.prog more) :
    @Sound (base0 w0 (Lf.ok hL kk)) Tryz.prog (orcX L ks pls more) :=
  @sound_or (base0 w0 (Lf.ok hL kk)) _ _ _ hm (@sound_or (base0 w0 (Lf.ok hL kk)) _ _ _ (sound_pl (Lf.ok hL kk) hL e k) (@sound_or (base0 w0 (Lf.ok hL kk)) _ _ _ (sound_inc (base0 w0 (Lf.ok hL kk))) (sound_numX (Lf.ok hL kk) d k)))
end
noncomputable def noO : Oracle := fun _ _ _ _ => none
theorem sound_no (b : Base) : @Sound b Tryz.prog noO := fun _ _ _ _ _ _ h => by cases h
end Go.Proofs.YtnhnelgkcldkbaaGreatDoor.Am
