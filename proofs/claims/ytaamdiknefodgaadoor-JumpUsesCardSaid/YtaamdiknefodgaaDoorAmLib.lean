/- The abstract machine and the contracts of a library; its word on a call, out of the machine. (No program in sight.) -/
import Derived.Test.YtaamdiknefodgaaDoorAmExec
namespace Go.Proofs.YtaamdiknefodgaaDoor.Am
open Go.RowKit
set_option linter.unusedSectionVars false

/-- what holds of every memory whose first blocks are these -/
def Holds0 [Base] (Q : World → Prop) : Prop := ∀ w : World, (∀ b, b < Base.nb → w.heap[b]? = Base.g b) → Q w

section
variable [Base] {P : Program}
theorem sound_none : Sound P (fun _ _ _ _ => none) := fun f args h fl v h' e => by cases e
theorem sound_or {O O' : Oracle} (h : Sound P O) (k : Sound P O') : Sound P (fun f args h fl => orR (O f args h fl) (O' f args h fl)) := by
  intro f args h' fl v h'' e
  have e : orR (O f args h' fl) (O' f args h' fl) = some (v, h'') := e
  cases ho : O f args h' fl with
  | none => rw [ho] at e; exact k f args h' fl v h'' e
  | some x => rw [ho] at e; cases e; exact h f args h' fl v h'' ho
/-- a function that only computes -/
noncomputable def pureO (f0 : FuncId) (g : List A → Option V) : Oracle := fun f args h _ => bif f == f0 then ob (g args) (fun v => some (v, h)) else none
theorem sound_pure {f0 : FuncId} {g : List A → Option V} (hc : Callable P f0)
    (hg : ∀ args v, g args = some v → ∀ (r : Ren) (vs : List Value), All2 (VA r) args vs → Holds0 fun w => Calls P f0 vs.toArray w fun e w' => ∃ u, e = .returned u ∧ VV r v u ∧ Below w.heap.size w w') : Sound P (pureO f0 g) := by
  intro f args h fl v h' e
  unfold pureO at e
  cases hf : (f == f0) <;> rw [hf] at e <;> simp only [cond_true, cond_false] at e
  · cases e
  obtain rfl : f = f0 := by simpa using hf
  obtain ⟨v', hv, e⟩ := ob_some e
  cases e
  exact ⟨hc, fun r B w vs hi ha => (hg args v hv r vs ha w hi.hr.z).mono fun e w' ⟨u, e1, e2, e3⟩ => ⟨u, e1, Post.below hi e3 e2⟩⟩
end

/-- the machine's word on a call, for whoever calls -/
theorem calls_of_sound [Base] {P : Program} {O : Oracle} (hO : Sound P O) {f : FuncId} {args : List A} {h : Heap} {v : V} {h' : Heap} (hr : O f args h h.next = some (v, h')) {r : Ren} {w : World} {vs : List Value} (hi : Inv h r w.heap.size w) (ha : All2 (VA r) args vs) :
    Calls P f vs.toArray w fun e w' => ∃ u r', e = .returned u ∧ VV r' v u ∧ Inv h' r' w.heap.size w' ∧ Below w.heap.size w w' := by
  obtain ⟨_, hc⟩ := hO _ _ _ _ _ _ hr
  refine (hc r w.heap.size w vs hi ha).mono fun e w' ⟨u, e1, r', i, e2, ad⟩ => ⟨u, r', e1, e2, i, ⟨ad.os, ad.tape, ad.output, ad.size, fun k hk => ad.frame k hk fun l c hl _ hfl => ?_⟩⟩
  have := hi.n l (hi.hr.dom l c hl)
  omega
/-- the answer is this truth value -/
def tells (b : Bool) (x : Option (V × Heap)) : Bool := match x with
  | some (.a (.s (.bool c)), _) => c == b
  | _ => false
/-- nothing is known, nothing is left open -/
abbrev Base.plain (nb : Nat) (w0 : World) : Base := { Know.nought with nb := nb, g := fun b => w0.heap[b]?, rho := fun _ => 0, sig := fun _ => [], ok := KnowOk.nought _ _ }
/-- .. this is known -/
abbrev Base.known (K : Know) {rho : Nat → Int} {sig : Nat → List UInt8} (ok : KnowOk K rho sig) (nb : Nat) (w0 : World) : Base := { K with nb := nb, g := fun b => w0.heap[b]?, rho := rho, sig := sig, ok := ok }

/-- the machine's word on a call whose arguments hold no references -/
theorem calls_flat [b : Base] {P : Program} (w : World) (hnb : Base.nb ≤ w.heap.size) (hg : ∀ k, k < Base.nb → w.heap[k]? = Base.g k) {O : Oracle} (hO : Sound P O) {f : FuncId} {args : List A} {vs : List Value} (ha : All2 (VA r0) args vs) {v : V} {h' : Heap} (hr : O f args ⟨[], 0⟩ 0 = some (v, h')) :
    Calls P f vs.toArray w fun e w' => ∃ u r', e = .returned u ∧ VV r' v u ∧ Below w.heap.size w w' := by
  have hi : Inv ⟨[], 0⟩ r0 w.heap.size w :=
    ⟨fun l h => h.elim, Nat.le_refl _, fun l b h => (by cases h), fun l b h => (by cases h), fun l b h => (by cases h), fun l b l' b' h => (by cases h), hnb, hg⟩
  exact (calls_of_sound hO hr hi ha).mono fun e w' ⟨u, r', e1, e2, _, e3⟩ => ⟨u, r', e1, e2, e3⟩
/-- .. and whose answer is a truth value -/
theorem calls_bool [b : Base] {P : Program} (w : World) (hnb : Base.nb ≤ w.heap.size) (hg : ∀ k, k < Base.nb → w.heap[k]? = Base.g k) {O : Oracle} (hO : Sound P O) {f : FuncId} {args : List A} {vs : List Value} (ha : All2 (VA r0) args vs) {c : Bool} (hr : tells c (O f args ⟨[], 0⟩ 0) = true) :
    Calls P f vs.toArray w fun e w' => e = .returned (.bool c) ∧ Below w.heap.size w w' := by
  unfold tells at hr
  split at hr
  · rename_i c' h' he
    refine (calls_flat w hnb hg hO ha he).mono fun e w' ⟨u, r', e1, e2, e3⟩ => ⟨?_, e3⟩
    have hc : c' = c := by simpa using hr
    subst hc
    cases e2
    exact e1
  · cases hr
/-- a call without arguments -/
theorem calls_closed {P : Program} {nb : Nat} (w : World) (hnb : nb ≤ w.heap.size) {O : Oracle} (hO : @Sound (Base.plain nb w) P O) {f : FuncId} {b : Bool} (hr : tells b (O f [] ⟨[], 0⟩ 0) = true) :
    Calls P f #[] w fun e w' => e = .returned (.bool b) ∧ Below w.heap.size w w' :=
  @calls_bool (Base.plain nb w) P w hnb (fun _ _ => rfl) O hO f [] [] trivial b hr

/-! a table of calls -/
def S.same (x y : S) : Bool :=
  match x, y with
  | .bool a, .bool b => a == b
  | .int k a, .int l b => k == l && decide (a = b)
  | .str a, .str b => sameX (a.map UInt8.toNat) (b.map UInt8.toNat)
  | .xi k i, .xi l j => k == l && Nat.beq i j
  | .xs a, .xs b => sameX a b
  | .nilp, .nilp => true
  | .nils, .nils => true
  | .nili, .nili => true
  | _, _ => false
def sameL {α : Type} (f : α → α → Bool) : List α → List α → Bool
  | [], [] => true
  | x :: r, y :: s => f x y && sameL f r s
  | _, _ => false
def A.same (x y : A) : Bool := match x, y with | .s x, .s y => x.same y | .g l, .g m => sameL S.same l m | _, _ => false
theorem same0 : ∀ {a b : List Nat}, sameX a b = true → a = b
  | [], [], _ => rfl
  | a :: r, b :: s, h => by
    simp only [sameX, Bool.and_eq_true] at h
    rw [Nat.eq_of_beq_eq_true h.1, same0 h.2]
  | [], _ :: _, h => by cases h
  | _ :: _, [], h => by cases h
theorem u8s_inj : ∀ {a b : List UInt8}, a.map UInt8.toNat = b.map UInt8.toNat → a = b
  | [], [], _ => rfl
  | x :: a, y :: b, h => by
    simp only [List.map_cons, List.cons.injEq] at h
    rw [UInt8.toNat_inj.1 h.1, u8s_inj h.2]
  | [], _ :: _, h => by cases h
  | _ :: _, [], h => by cases h
theorem S.same_ok {x y : S} (h : x.same y = true) : x = y ∧ x.flat = true := by
  unfold S.same at h
  split at h
  · simp at h; subst h; exact ⟨rfl, rfl⟩
  · simp at h; obtain ⟨rfl, rfl⟩ := h; exact ⟨rfl, rfl⟩
  · rw [u8s_inj (same0 h)]; exact ⟨rfl, rfl⟩
  · simp only [Bool.and_eq_true, beq_iff_eq] at h
    obtain ⟨rfl, h⟩ := h
    rw [Nat.eq_of_beq_eq_true h]
    exact ⟨rfl, rfl⟩
  · rw [same0 h]; exact ⟨rfl, rfl⟩
  · exact ⟨rfl, rfl⟩
  · exact ⟨rfl, rfl⟩
  · exact ⟨rfl, rfl⟩
  · cases h
theorem sameL_ok {α : Type} {f : α → α → Bool} {g : α → Bool} (hf : ∀ x y, f x y = true → x = y ∧ g x = true) : ∀ {l m : List α}, sameL f l m = true → l = m ∧ l.all g = true
  | [], [], _ => ⟨rfl, rfl⟩
  | [], _ :: _, h => by cases h
  | _ :: _, [], h => by cases h
  | x :: l, y :: m, h => by
    simp only [sameL, Bool.and_eq_true] at h
    obtain ⟨rfl, h1⟩ := hf _ _ h.1
    obtain ⟨rfl, h2⟩ := sameL_ok hf h.2
    exact ⟨rfl, by simp [h1] at h2 ⊢; exact h2⟩
theorem A.same_ok {x y : A} (h : x.same y = true) : x = y ∧ x.flat = true := by
  unfold A.same at h
  split at h
  · obtain ⟨rfl, h1⟩ := S.same_ok h
    exact ⟨rfl, by simp [A.flat, A.cells, h1]⟩
  · obtain ⟨rfl, h1⟩ := sameL_ok (fun x y => S.same_ok) h
    exact ⟨rfl, h1⟩
  · cases h
/-- calls, and what they come to -/
abbrev Tab := List (FuncId × List A × V)
def Tab.find (f : FuncId) (args : List A) : Tab → Option V
  | [] => none
  | (g, a, v) :: t => bif Nat.beq g f && sameL A.same a args then some v else Tab.find f args t
noncomputable def tabO (T : Tab) : Oracle := fun f args h _ => ob (T.find f args) fun v => some (v, h)
/-- one row of the table -/
def RowOk [Base] (P : Program) (f : FuncId) (args : List A) (v : V) : Prop :=
  Callable P f ∧ v.flat = true ∧ ∀ vs, All2 (VA r0) args vs → Holds0 fun w => Calls P f vs.toArray w fun e w' => ∃ u, e = .returned u ∧ VV r0 v u ∧ Below w.heap.size w w'
theorem Tab.find_ok {f : FuncId} {args : List A} {v : V} : ∀ {T : Tab}, T.find f args = some v → (f, args, v) ∈ T ∧ args.all A.flat = true
  | [], h => by cases h
  | (g, a, v') :: t, h => by
    have h : (bif Nat.beq g f && sameL A.same a args then some v' else Tab.find f args t) = some v := h
    cases hc : (Nat.beq g f && sameL A.same a args) <;> rw [hc] at h <;> simp only [cond_true, cond_false] at h
    · obtain ⟨h1, h2⟩ := Tab.find_ok h
      exact ⟨by simp [h1], h2⟩
    · cases h
      simp only [Bool.and_eq_true] at hc
      obtain rfl := Nat.eq_of_beq_eq_true hc.1
      obtain ⟨rfl, h2⟩ := sameL_ok (fun x y => A.same_ok) hc.2
      exact ⟨by simp, h2⟩
theorem sound_tab [Base] {P : Program} {T : Tab} (hT : ∀ f args v, (f, args, v) ∈ T → RowOk P f args v) : Sound P (tabO T) := by
  intro f args h fl v h' e
  obtain ⟨v', hv, e⟩ := ob_some e
  cases e
  obtain ⟨hm, hfl⟩ := Tab.find_ok hv
  obtain ⟨hc, hvf, hcalls⟩ := hT _ _ _ hm
  exact ⟨hc, fun r B w vs hi ha => (hcalls vs (flats_ok hfl ha) w hi.hr.z).mono fun e w' ⟨u, e1, e2, e3⟩ => ⟨u, e1, Post.below hi e3 (V.flat_any hvf e2)⟩⟩
/-- the machine's word, as a row -/
theorem RowOk.run [Base] {P : Program} (hnb : ∀ w : World, (∀ k, k < Base.nb → w.heap[k]? = Base.g k) → Base.nb ≤ w.heap.size) {O : Oracle} (hO : Sound P O) {f : FuncId} {args : List A} {v : V} {h' : Heap} (hr : O f args ⟨[], 0⟩ 0 = some (v, h')) (hv : v.flat = true) : RowOk P f args v :=
  ⟨(hO _ _ _ _ _ _ hr).1, hv, fun _ ha w hw => (calls_flat w (hnb w hw) hw hO ha hr).mono fun _ _ ⟨u, _, e1, e2, e3⟩ => ⟨u, e1, V.flat_any hv e2, e3⟩⟩
end Go.Proofs.YtaamdiknefodgaaDoor.Am
