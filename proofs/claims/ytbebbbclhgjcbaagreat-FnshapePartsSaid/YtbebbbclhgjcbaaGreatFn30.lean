/- Rows of calls that answer with a new list. -/
import Derived.Test.YtbebbbclhgjcbaaGreatFn29
namespace Go.Proofs.YtbebbbclhgjcbaaGreat.Am
open Go.RowKit
set_option linter.unusedVariables false
set_option linter.unusedSectionVars false
/-- a call of one function with these arguments answers a new list of these, and no error -/
noncomputable def rowGL (F : FuncId) (xs0 : List A) (res : List S) : Oracle := fun f args hp _ => bif f == F then (bif sameL A.eqb xs0 args then some (newV res hp) else none) else none
theorem sound_rowGL [Base] {P : Program} {F : FuncId} (hc : Callable P F) {xs0 : List A} {res : List S} {vals : List Value} (h1 : xs0.all A.oneR = true) {us : List Value} (hus : All2 (VA r0) xs0 us) (hr : ∀ r, All2 (VS r) res vals)
    (h : Holds0 fun w => Calls P F us.toArray w fun x w' => ∃ q, x = .returned (.tuple #[q, .int .i64 0]) ∧ NewRow w w' q vals ∧ Below w.heap.size w w') : Sound P (rowGL F xs0 res) := by
  intro f args hp fl v0 h' e
  unfold rowGL at e
  cases hf : (f == F) <;> rw [hf] at e <;> simp only [cond_true, cond_false] at e
  · cases e
  obtain rfl : f = F := by simpa using hf
  cases hs : sameL A.eqb xs0 args <;> rw [hs] at e <;> simp only [cond_true, cond_false] at e
  · cases e
  have he := sameB (fun _ _ => A.eqb_ok) hs
  subst he
  have e : newV res hp = (v0, h') := by injection e
  refine ⟨hc, fun r B w' vs hi ha => ?_⟩
  obtain rfl := As.one_sameR h1 ha hus
  refine (h w' hi.hr.z).mono fun x w'' ⟨q, e1, e2, e3⟩ => ⟨_, e1, ?_⟩
  have := Post.new (fl := fl) hi e3 e2 (hr r)
  rw [e] at this
  exact this
end Go.Proofs.YtbebbbclhgjcbaaGreat.Am
