/- alive of chapter 04 answers true, whoever calls. -/
import Derived.Test.YtncbkjokabgkbaaDoorLb
import Derived.Test.YtncbkjokabgkbaaDoorAmLeaf
namespace Go.Proofs.YtncbkjokabgkbaaDoor.Am
open Go.RowKit

theorem TabOk.all {w w0 : World} (k : TabOk w0) (h : ∀ b, b < 3 → w.heap[b]? = w0.heap[b]?) : TabOk w := by
  refine ⟨?_, k.here h⟩
  have hs := k.size
  have h3 : w0.heap[2]? = some w0.heap[2] := Array.getElem?_eq_getElem (by omega)
  have := (Array.getElem?_eq_some_iff.1 ((h 2 (by decide)).trans h3)).1
  omega
theorem alive04_run : tells true (@runs Know.nought (tyOf Tryd.prog) (fnOf Tryd.prog) numO 100 25 42 [] ⟨[], 0⟩ 0) = true := by kernel_rfl
theorem alive04 (w : World) (h : TabOk w) : Calls Tryd.prog 42 #[] w fun e w' => e = .returned (.bool true) ∧ Below w.heap.size w w' := by
  have hS := sound_runs (KnowOk.nought (fun _ => 0) (fun _ => [])) (sound_num (KnowOk.nought (fun _ => 0) (fun _ => [])) h) 100 25
  exact calls_closed w h.size hS alive04_run
noncomputable def alive04O : Oracle := sayO 42 (V.s (.bool true))
theorem sound_alive04 {w : World} (h : TabOk w) {K : Know} {rho : Nat → Int} {sig : Nat → List UInt8} (ok : KnowOk K rho sig) : @Sound (base0 w ok) Tryd.prog alive04O :=
  @sound_say (base0 w ok) _ _ _ ⟨_, Tryd.func42, by kernel_rfl, by kernel_rfl⟩ fun w' hw => alive04 w' (h.all hw)
end Go.Proofs.YtncbkjokabgkbaaDoor.Am
