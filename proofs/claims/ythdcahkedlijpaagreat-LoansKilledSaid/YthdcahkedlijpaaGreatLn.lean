/- What the machine says of this program, without oracles. -/
import Derived.Test.YthdcahkedlijpaaGreatAmB
import Derived.Test.YthdcahkedlijpaaGreatProg
import Derived.WalkKit
namespace Go.Proofs.YthdcahkedlijpaaGreat.Am
open Go.RowKit
abbrev baseN (w0 : World) {K : Know} {rho : Nat → Int} {sig : Nat → List UInt8} (ok : KnowOk K rho sig) : Base := Base.known K ok 0 w0
section
variable {w0 : World} {K : Know} {rho : Nat → Int} {sig : Nat → List UInt8} (ok : KnowOk K rho sig)
theorem fnOkN : FnOk Tryz.prog (fnOf Tryz.prog) := by
  have hall : (Tryz.prog.funcs.toList.all fun F => !(F.name == "runtime.NumGoroutine")) = true := by kernel_rfl
  intro f F h
  refine ⟨h, ?_⟩
  have hm : F ∈ Tryz.prog.funcs.toList := by
    have h : Tryz.prog.funcs[f]? = some F := h
    rw [← Array.getElem?_toList] at h
    exact List.mem_of_getElem? h
  simpa using List.all_eq_true.1 hall F hm
theorem mixedN : Tryz.prog.follows .mixedOrders = true := by kernel_rfl
noncomputable def noneO : Oracle := fun _ _ _ _ => none
theorem sound_noneO : @Sound (baseN w0 ok) Tryz.prog noneO := fun _ _ _ _ _ _ h => by cases h
theorem sound_runsN {lib : Oracle} (hl : @Sound (baseN w0 ok) Tryz.prog lib) (n d : Nat) : @Sound (baseN w0 ok) Tryz.prog (@runs K (tyOf Tryz.prog) (fnOf Tryz.prog) lib n d) :=
  @runs_ok (baseN w0 ok) _ _ (@tyOf_ok (baseN w0 ok) Tryz.prog) _ fnOkN _ hl mixedN n d
end
end Go.Proofs.YthdcahkedlijpaaGreat.Am
