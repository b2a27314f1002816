/- The abstract machine and the contracts of a library; its word on a call, out of the machine. (No program in sight.) -/
import Derived.Test.YtncbkjokabgkbaaDoorAmExec
namespace Go.Proofs.YtncbkjokabgkbaaDoor.Am
open Go.RowKit
set_option linter.unusedSectionVars false

/-- what holds of every memory whose first blocks are these -/
def Holds0 [Base] (Q : World → Prop) : Prop := ∀ w : World, (∀ b, b < Base.nb → w.heap[b]? = Base.g b) → Q w

section
variable [Base] {P : Program}
theorem sound_none : Sound P (fun _ _ _ _ => none) := fun f args h fl v h' e => by cases e
theorem sound_or {O O' : Oracle} (h : Sound P O) (k : Sound P O') : Sound P (fun f args h fl => orR (O f args h fl) (O' f args h fl)) := by
  intro f args h' fl v h'' e
  have e : orR (O f args h' fl) (O' f args h' fl) = some (v, h'') := e
  cases ho : O f args h' fl with
  | none => rw [ho] at e; exact k f args h' fl v h'' e
  | some x => rw [ho] at e; cases e; exact h f args h' fl v h'' ho
/-- a step that leaves everything that was there -/
theorem Post.below {B fl : Nat} {h : Heap} {r : Ren} {w : World} {v : V} {u : Value} {w' : World} (hi : Inv h r B w) (hb : Below w.heap.size w w') (hv : VV r v u) : Post B fl h r w v h u w' :=
  ⟨r, ⟨hi.n, Nat.le_trans hi.b hb.size, hi.hr.keep hi.b hb.block⟩, hv, Ren.le.refl r, Nat.le_refl _, fun _ h => .inl h, hb.os, hb.tape, hb.output, hb.size, fun b hlt _ => hb.block b hlt, fun _ _ _ => rfl, fun _ b' _ h => ⟨b', h, rfl⟩,
    fun l b' hl hb' => absurd (hi.n l (hi.hr.dom l b' hb')) (Nat.not_lt.2 hl)⟩
/-- a function that only computes -/
noncomputable def pureO (f0 : FuncId) (g : List A → Option V) : Oracle := fun f args h _ => bif f == f0 then ob (g args) (fun v => some (v, h)) else none
theorem sound_pure {f0 : FuncId} {g : List A → Option V} (hc : Callable P f0)
    (hg : ∀ args v, g args = some v → ∀ (r : Ren) (vs : List Value), All2 (VA r) args vs → Holds0 fun w => Calls P f0 vs.toArray w fun e w' => ∃ u, e = .returned u ∧ VV r v u ∧ Below w.heap.size w w') : Sound P (pureO f0 g) := by
  intro f args h fl v h' e
  unfold pureO at e
  cases hf : (f == f0) <;> rw [hf] at e <;> simp only [cond_true, cond_false] at e
  · cases e
  obtain rfl : f = f0 := by simpa using hf
  obtain ⟨v', hv, e⟩ := ob_some e
  cases e
  exact ⟨hc, fun r B w vs hi ha => (hg args v hv r vs ha w hi.hr.z).mono fun e w' ⟨u, e1, e2, e3⟩ => ⟨u, e1, Post.below hi e3 e2⟩⟩
end

/-- the machine's word on a call, for whoever calls -/
theorem calls_of_sound [Base] {P : Program} {O : Oracle} (hO : Sound P O) {f : FuncId} {args : List A} {h : Heap} {v : V} {h' : Heap} (hr : O f args h h.next = some (v, h')) {r : Ren} {w : World} {vs : List Value} (hi : Inv h r w.heap.size w) (ha : All2 (VA r) args vs) :
    Calls P f vs.toArray w fun e w' => ∃ u r', e = .returned u ∧ VV r' v u ∧ Inv h' r' w.heap.size w' ∧ Below w.heap.size w w' := by
  obtain ⟨_, hc⟩ := hO _ _ _ _ _ _ hr
  refine (hc r w.heap.size w vs hi ha).mono fun e w' ⟨u, e1, r', i, e2, ad⟩ => ⟨u, r', e1, e2, i, ⟨ad.os, ad.tape, ad.output, ad.size, fun k hk => ad.frame k hk fun l c hl _ hfl => ?_⟩⟩
  have := hi.n l (hi.hr.dom l c hl)
  omega
/-- the answer is this truth value -/
def tells (b : Bool) (x : Option (V × Heap)) : Bool := match x with
  | some (.a (.s (.bool c)), _) => c == b
  | _ => false
/-- a call without arguments -/
theorem calls_closed {P : Program} {nb : Nat} (w : World) (hnb : nb ≤ w.heap.size) {O : Oracle} (hO : @Sound ⟨nb, fun b => w.heap[b]?⟩ P O) {f : FuncId} {b : Bool} (hr : tells b (O f [] ⟨[], 0⟩ 0) = true) :
    Calls P f #[] w fun e w' => e = .returned (.bool b) ∧ Below w.heap.size w w' := by
  letI : Base := ⟨nb, fun b => w.heap[b]?⟩
  unfold tells at hr
  split at hr
  · rename_i c h' he
    have hi : Inv ⟨[], 0⟩ ⟨fun _ => False, fun _ => 0, fun _ => 0, fun _ => 0⟩ w.heap.size w :=
      ⟨fun l h => h.elim, Nat.le_refl _, fun l b h => (by cases h), fun l b h => (by cases h), fun l b h => (by cases h), fun l b l' b' h => (by cases h), hnb, fun _ _ => rfl⟩
    refine (calls_of_sound hO he hi (vs := []) trivial).mono fun e w' ⟨u, r', e1, e2, _, e3⟩ => ⟨?_, e3⟩
    have hc : c = b := by simpa using hr
    subst hc
    cases e2
    exact e1
  · cases hr
end Go.Proofs.YtncbkjokabgkbaaDoor.Am
