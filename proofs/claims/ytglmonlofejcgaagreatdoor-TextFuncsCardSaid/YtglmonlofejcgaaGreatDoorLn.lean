/- What the machine says of this program, without oracles. -/
import Derived.Test.YtglmonlofejcgaaGreatDoorAmB
import Derived.Test.YtglmonlofejcgaaGreatDoorProg
import Derived.WalkKit
namespace Go.Proofs.YtglmonlofejcgaaGreatDoor.Am
open Go.RowKit
abbrev sZ (w0 : World) {K : Know} {rho : Nat -> Int} {sig : Nat -> List UInt8} (ok : aG K rho sig) : Base := Base.known K ok 0 w0
section
variable {w0 : World} {K : Know} {rho : Nat -> Int} {sig : Nat -> List UInt8} (ok : aG K rho sig)
theorem Pm : a6W Tryz.prog (lZ Tryz.prog) := by
 have hall : (Tryz.prog.funcs.toList.all fun F => !(F.name == "runtime.NumGoroutine")) = true := by kernel_rfl
 intro f F h
 refine ⟨h, ?_⟩
 have hm : F ∈ Tryz.prog.funcs.toList := by
  have h : Tryz.prog.funcs[f]? = some F := h
  rw [<- Array.getElem?_toList] at h
  exact List.mem_of_getElem? h
 simpa using List.all_eq_true.1 hall F hm
theorem Bc : Tryz.prog.follows .mixedOrders = true := by kernel_rfl
noncomputable def qx : aS := fun _ _ _ _ => none
theorem lD : @Sound (sZ w0 ok) Tryz.prog qx := fun _ _ _ _ _ _ h => by cases h
theorem qL {lib : aS} (hl : @Sound (sZ w0 ok) Tryz.prog lib) (n d : Nat) : @Sound (sZ w0 ok) Tryz.prog (@runs K (lM Tryz.prog) (lZ Tryz.prog) lib n d) :=
 @a0S (sZ w0 ok) _ _ (@qQ (sZ w0 ok) Tryz.prog) _ Pm _ hl Bc n d
end
end Go.Proofs.YtglmonlofejcgaaGreatDoor.Am
