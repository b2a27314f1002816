/- alive of chapter 06 answers true, whoever calls. -/
import Derived.Test.YtaamdiknefodgaaDoorLj
import Derived.Test.YtaamdiknefodgaaDoorAmLeaf
namespace Go.Proofs.YtaamdiknefodgaaDoor.Am
open Go.RowKit
theorem TabOk.all {w w0 : World} (k : TabOk w0) (h : ∀ b, b < 3 → w.heap[b]? = w0.heap[b]?) : TabOk w := by
  refine ⟨?_, k.here h⟩
  have hs := k.size
  have h3 : w0.heap[2]? = some w0.heap[2] := Array.getElem?_eq_getElem (by omega)
  have := (Array.getElem?_eq_some_iff.1 ((h 2 (by decide)).trans h3)).1
  omega
theorem alive06_run : tells true (@runs Know.nought (tyOf Tryd.prog) (fnOf Tryd.prog) numJoinO 100 25 23 [] ⟨[], 0⟩ 0) = true := by kernel_rfl
theorem alive06 (w : World) (h : TabOk w) : Calls Tryd.prog 23 #[] w fun e w' => e = .returned (.bool true) ∧ Below w.heap.size w w' := by
  have hS := sound_runs (KnowOk.nought (fun _ => 0) (fun _ => [])) (sound_numJoin (KnowOk.nought (fun _ => 0) (fun _ => [])) h) 100 25
  exact calls_closed w h.size hS alive06_run
noncomputable def alive06O : Oracle := sayO 23 (V.s (.bool true))
theorem sound_alive06 {w : World} (h : TabOk w) (b : Base) (hb : b.nb = w.heap.size) (hg : b.g = fun k => w.heap[k]?) : @Sound b Tryd.prog alive06O :=
  @sound_say b _ _ _ ⟨_, Tryd.func23, by kernel_rfl, by kernel_rfl⟩ fun w' hw => alive06 w' (h.all fun k hk => by
    have h1 : w'.heap[k]? = b.g k := hw k (by have := h.size; show k < b.nb; omega)
    rw [h1, hg])
end Go.Proofs.YtaamdiknefodgaaDoor.Am
