/- alive of chapter 03 answers true, whoever calls. -/
import Derived.Test.YtncbkjokabgkbaaDoorSeatE
import Derived.Test.YtncbkjokabgkbaaDoorAmFlat
namespace Go.Proofs.YtncbkjokabgkbaaDoor.Am
open Go.RowKit

theorem ErrOk.here {w w0 : World} (k : ErrOk w0) (h : ∀ b, b < 3 → w.heap[b]? = w0.heap[b]?) : ErrOk w := by
  obtain ⟨hs, ⟨t, p, h1⟩, ⟨t', p', h2⟩⟩ := k
  refine ⟨?_, ⟨t, p, (cell0 h _ _ (by decide)).trans h1⟩, ⟨t', p', (cell0 h _ _ (by decide)).trans h2⟩⟩
  have h3 : w0.heap[2]? = some w0.heap[2] := Array.getElem?_eq_getElem (by omega)
  have := (Array.getElem?_eq_some_iff.1 ((h 2 (by decide)).trans h3)).1
  omega
theorem alive03_run : tells true (@runs Know.nought (tyOf Tryd.prog) (fnOf Tryd.prog) atoiO 100 20 32 [] ⟨[], 0⟩ 0) = true := by kernel_rfl
theorem alive03 (w : World) (h : ErrOk w) : Calls Tryd.prog 32 #[] w fun e w' => e = .returned (.bool true) ∧ Below w.heap.size w w' := by
  have hS := sound_runs (KnowOk.nought (fun _ => 0) (fun _ => [])) (sound_atoi (KnowOk.nought (fun _ => 0) (fun _ => [])) h) 100 20
  exact calls_closed w h.size hS alive03_run
noncomputable def alive03O : Oracle := sayO 32 (V.s (.bool true))
theorem sound_alive03 {w : World} (h : ErrOk w) {K : Know} {rho : Nat → Int} {sig : Nat → List UInt8} (ok : KnowOk K rho sig) : @Sound (base0 w ok) Tryd.prog alive03O :=
  @sound_say (base0 w ok) _ _ _ ⟨_, Tryd.func32, by kernel_rfl, by kernel_rfl⟩ fun w' hw => alive03 w' (h.here hw)
end Go.Proofs.YtncbkjokabgkbaaDoor.Am
