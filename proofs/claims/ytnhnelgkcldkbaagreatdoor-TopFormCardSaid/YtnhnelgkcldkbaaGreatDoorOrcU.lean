/- All oracles of a law over places: texts of places, Increasing, numbers to digits, and one more. -/
import Derived.Test.YtnhnelgkcldkbaaGreatDoorTextVU
set_option linter.all false
namespace Go.Proofs.YtnhnelgkcldkbaaGreatDoor
namespace Am
open Go.RowKit
noncomputable def aa5 (L:Lf)(ks:List Kd)(pls:List Pl)(more:aU):aU:=λf a h fl=>
 orR (more f a h fl) (orR (plO L ks.length pls f a h fl) (orR (abj (L.know (fF 0 ks)) f a h fl) (a9y ks f a h fl)))
section
variable {w0:World} {rho:Nat->Int} {sig:Nat->List UInt8} {L:Lf} {ks:List Kd} {pls:List Pl}
theorem GX (hL:L.Holds rho sig)(kk:Lens (fF 0 ks) rho sig)(d:Dec ks rho sig)(e:PlE ks.length pls rho sig)(k:iq w0){more:aU}(hm:@Sound (base0 w0 (Lf.ok hL kk)) Tryz.prog more):
  @Sound (base0 w0 (Lf.ok hL kk)) Tryz.prog (aa5 L ks pls more):=
 @fG (base0 w0 (Lf.ok hL kk)) _ _ _ hm (@fG (base0 w0 (Lf.ok hL kk)) _ _ _ (a2a (Lf.ok hL kk) hL e k) (@fG (base0 w0 (Lf.ok hL kk)) _ _ _ (a09 (base0 w0 (Lf.ok hL kk))) (Vj (Lf.ok hL kk) d k)))
end
noncomputable def noO:aU:=λ_ _ _ _=>none
theorem Qg (b:Base):@Sound b Tryz.prog noO:=λ_ _ _ _ _ _ h=>by cases h
