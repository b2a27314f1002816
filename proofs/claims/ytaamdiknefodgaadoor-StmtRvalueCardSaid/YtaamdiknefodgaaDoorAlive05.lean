/- alive of chapter 05 answers true, whoever calls. -/
import Derived.Test.YtaamdiknefodgaaDoorLb
import Derived.Test.YtaamdiknefodgaaDoorIns
namespace Go.Proofs.YtaamdiknefodgaaDoor.Am
open Go.RowKit

theorem TabOk.all {w w0 : World} (k : TabOk w0) (h : ∀ b, b < 3 → w.heap[b]? = w0.heap[b]?) : TabOk w := by
  refine ⟨?_, k.here h⟩
  have hs := k.size
  have h3 : w0.heap[2]? = some w0.heap[2] := Array.getElem?_eq_getElem (by omega)
  have := (Array.getElem?_eq_some_iff.1 ((h 2 (by decide)).trans h3)).1
  omega
/-- numbers to digits, slices.Insert -/
noncomputable def numI : Oracle := fun f a h fl => orR (numO f a h fl) (insXO f a h fl)
theorem sound_numI {w0 : World} {K : Know} {rho : Nat → Int} {sig : Nat → List UInt8} (ok : KnowOk K rho sig) (k : TabOk w0) : @Sound (base0 w0 ok) Tryd.prog numI := @sound_or (base0 w0 ok) _ _ _ (sound_num ok k) (sound_insX (base0 w0 ok))
theorem alive05_run : tells true (@runs Know.nought (tyOf Tryd.prog) (fnOf Tryd.prog) numI 100 25 46 [] ⟨[], 0⟩ 0) = true := by kernel_rfl
theorem alive05 (w : World) (h : TabOk w) : Calls Tryd.prog 46 #[] w fun e w' => e = .returned (.bool true) ∧ Below w.heap.size w w' := by
  have hS := sound_runs (KnowOk.nought (fun _ => 0) (fun _ => [])) (sound_numI (KnowOk.nought (fun _ => 0) (fun _ => [])) h) 100 25
  exact calls_closed w h.size hS alive05_run
noncomputable def alive05O : Oracle := fun f a h fl => orR (sayO 46 (V.s (.bool true)) f a h fl) (insXO f a h fl)
theorem sound_alive05 {w : World} (h : TabOk w) {K : Know} {rho : Nat → Int} {sig : Nat → List UInt8} (ok : KnowOk K rho sig) : @Sound (base0 w ok) Tryd.prog alive05O :=
  @sound_or (base0 w ok) _ _ _ (@sound_say (base0 w ok) _ _ _ ⟨_, Tryd.func46, by kernel_rfl, by kernel_rfl⟩ fun w' hw => alive05 w' (h.all hw)) (sound_insX (base0 w ok))
noncomputable def insOnly : Oracle := insXO
theorem sound_insOnly (b : Base) : @Sound b Tryd.prog insOnly := sound_insX b
end Go.Proofs.YtaamdiknefodgaaDoor.Am
