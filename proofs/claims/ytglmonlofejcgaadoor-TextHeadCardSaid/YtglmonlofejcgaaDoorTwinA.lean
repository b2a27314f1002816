/- Small words for memory that the other texts use (no program in sight). Small words on strings and bytes (no program in sight). Increasing: the numbers of the truth values that are true, in order. A region that draws its order, walked in ONE order: what only reads is taken as soon as it may come up, if its value stands in every later world; what changes the world must be the only one that may come up. (No program in sight.) A region whose calls and allocations have no fixed order: the tree of orders, one light step at a time. (No program in sight.) append of a list that can be read onto a row of the call's own. (No program in sight.) A region that draws its order, what it reads early lying in blocks that it does not write. (No program in sight.) -/
import Derived.WalkKit
import Derived.WalkSpells
import Derived.WalkLawsBesides
import Derived.IntWalk
import Derived.Lib.Hide
import Derived.Laws.BytesArg
import Derived.Lib.ConvBytes
import Derived.OpenShut
import Derived.Test.YtglmonlofejcgaaDoorProg
import Derived.Test.YtglmonlofejcgaaDoorAmC
import Derived.OrdersHeld
import Derived.RegionTactic
import Derived.Test.YtglmonlofejcgaaDoorFuncIs
import Derived.Test.YtglmonlofejcgaaDoorFn0
import Derived.Deep.MidRow
import Derived.Laws.AppendOwnNone
import Derived.Maps.AppendAt
import Derived.Deep.AppendLies
namespace Go.Proofs.YtglmonlofejcgaaDoor
open Go.RowKit

end Go.Proofs.YtglmonlofejcgaaDoor
namespace Go.Proofs.YtglmonlofejcgaaDoor
open Go.RowKit

end Go.Proofs.YtglmonlofejcgaaDoor
namespace Go.Proofs.YtglmonlofejcgaaDoor
open Go.RowKit Go.Proofs.YtglmonlofejcgaaDoor.Am

namespace Am
end Am
end Go.Proofs.YtglmonlofejcgaaDoor
/-! A region that draws its order, walked in ONE order: what only reads is taken as soon as it may come up, if its value stands in every later world; what changes the world must be the only one that may come up. (No program in sight.) -/
namespace Go.Proofs.YtglmonlofejcgaaDoor
open Go.RowKit

section
variable {P : Program} {ops : Array Oper} {Q : Exit → Act → World → Prop} {md : Region.Mode} {E : World → World → Prop}

/-- Whatever order is picked from here on, each step leads on by E. -/
def wpAnyE (P : Program) (md : Region.Mode) (ops : Array Oper) (Q : Exit → Act → World → Prop) (E : World → World → Prop) : Nat → Array Bool → Act → World → Prop
  | 0, listed, a, w => Region.ready md ops listed = [] ∧ Q .normal a w
  | fuel + 1, listed, a, w =>
    (Region.ready md ops listed = [] → Q .normal a w) ∧
    ∀ i ∈ Region.ready md ops listed, wpOp P ops Q i (fun a' w' => E w w' ∧ wpAnyE P md ops Q E fuel (listed.setIfInBounds i true) a' w') a w

theorem wpAny_of_E : ∀ (fuel : Nat) (listed : Array Bool) (a : Act) (w : World), wpAnyE P md ops Q E fuel listed a w → wpAny P md ops Q fuel listed a w
  | 0, _, _, _, h => h
  | fuel + 1, _, _, _, h => ⟨h.1, fun i hi => wpOp_mono (fun a' w' h' => wpAny_of_E fuel _ a' w' h'.2) (h.2 i hi)⟩

theorem yields_later {o : Oper} {v : Value} {a : Act} {w w' : World} (htr : ∀ a b c, E a b → E b c → E a c) (he : E w w') (h : YieldsIf P ops (E w) o v a) : YieldsIf P ops (E w') o v a :=
  h.imp (fun ⟨hw, hv⟩ => ⟨hw, fun W hW => hv W (htr _ _ _ he hW)⟩) id

theorem wpAnyE_first (hrf : ∀ w, E w w) (htr : ∀ a b c, E a b → E b c → E a c) {i : Nat} {oi : Oper} {v : Value} (hi : ops[i]? = some oi) (hsel : ∀ (j : Nat) (o : Oper) cs b, ops[j]? = some o → o.op ≠ .select cs b)
    (hQ : ∀ c a w, Q (.panic c) (a.put oi.dst v) w → Q (.panic c) a w) :
    ∀ (fuel : Nat) (listed : Array Bool) (a : Act) (w : World),
      (∀ j oj, ops[j]? = some oj → j ≠ i → listed.getD j true = false → (∀ e ∈ oj.after, Region.binds md e = true → e.on ≠ i) → oi.apart ops oj = true) →
      i ∈ Region.ready md ops listed → YieldsIf P ops (E w) oi v a →
      wpAnyE P md ops Q E fuel (listed.setIfInBounds i true) (a.put oi.dst v) w → wpAnyE P md ops Q E (fuel + 1) listed a w := by
  intro fuel
  induction fuel with
  | zero =>
    intro listed a w _ hr hy H
    refine ⟨fun h => (by rw [h] at hr; cases hr), fun j hj => ?_⟩
    by_cases hji : j = i
    · subst hji; exact hy.wpOp hi (hrf w) ⟨hrf w, H⟩
    · have := ready_mono hj hji
      rw [H.1] at this
      cases this
  | succ fuel ih =>
    intro listed a w hfree hr hy H
    refine ⟨fun h => (by rw [h] at hr; cases hr), fun j hj => ?_⟩
    by_cases hji : j = i
    · subst hji; exact hy.wpOp hi (hrf w) ⟨hrf w, H⟩
    · have h1 := H.2 j (ready_mono hj hji)
      obtain ⟨hjun, oj, hoj, hall⟩ := mem_ready.1 hj
      have hnot : ∀ e ∈ oj.after, Region.binds md e = true → e.on ≠ i := fun e he hb heq => by
        have h1 := hall e he hb
        have h0 := (mem_ready.1 hr).1
        rw [heq] at h1
        rcases Nat.lt_or_ge i listed.size with h' | h'
        · simp [h'] at h0 h1; rw [h0] at h1; cases h1
        · simp [Array.getElem?_eq_none h'] at h1
      have h2 := wpOp_putIf hoj (hfree j oj hoj hji hjun hnot) (fun cs b => hsel i oi cs b hi) (fun cs b => hsel j oj cs b hoj) hQ hy h1
      have hfree' : ∀ k ok, ops[k]? = some ok → k ≠ i → (listed.setIfInBounds j true).getD k true = false →
          (∀ e ∈ ok.after, Region.binds md e = true → e.on ≠ i) → oi.apart ops ok = true := fun k ok hk hki hun hno => by
        refine hfree k ok hk hki ?_ hno
        by_cases hjk : j = k
        · subst hjk; exact hjun
        · rw [getD_set_ne true hjk] at hun; exact hun
      refine wpOp_mono (fun a' w' h3 => ⟨h3.2.1, ih (listed.setIfInBounds j true) a' w' hfree' (ready_mono hr (Ne.symm hji)) (yields_later htr h3.2.1 h3.1) ?_⟩) h2
      rw [Array.setIfInBounds_comm _ _ hji]
      exact h3.2.2

/-- The one order: (i, true): number i is taken, it only reads; (i, false): number i comes up alone. -/
def SeqE (P : Program) (ops : Array Oper) (Q : Exit → Act → World → Prop) (E : World → World → Prop) : List (Nat × Bool) → Act → World → Prop
  | [], a, w => Q .normal a w
  | (i, true) :: r, a, w => ∃ o v, ops[i]? = some o ∧ YieldsIf P ops (E w) o v a ∧ SeqE P ops Q E r (a.put o.dst v) w
  | (i, false) :: r, a, w => wpOp P ops Q i (fun a' w' => E w w' ∧ SeqE P ops Q E r a' w') a w

/-- The order is one that the region's edges allow, and nothing else may come up where the world changes. -/
def okOrder (md : Region.Mode) (ops : Array Oper) : List (Nat × Bool) → Array Bool → Bool
  | [], listed => (Region.ready md ops listed).isEmpty
  | (i, true) :: r, listed => Region.free md ops listed i && (Region.ready md ops listed).contains i && okOrder md ops r (listed.setIfInBounds i true)
  | (i, false) :: r, listed => Region.ready md ops listed == [i] && okOrder md ops r (listed.setIfInBounds i true)

theorem seqE_any (hrf : ∀ w, E w w) (htr : ∀ a b c, E a b → E b c → E a c) (hs : Region.noSelect ops = true) (hQ : ∀ (d : Option Tmp) (v : Value) c a w, Q (.panic c) (a.put d v) w → Q (.panic c) a w) :
    ∀ (r : List (Nat × Bool)) (fuel : Nat) (listed : Array Bool) (a : Act) (w : World), r.length ≤ fuel → okOrder md ops r listed = true → SeqE P ops Q E r a w → wpAnyE P md ops Q E fuel listed a w
  | [], fuel, listed, a, w, _, hok, h => by
    have hr : Region.ready md ops listed = [] := by simpa [okOrder] using hok
    cases fuel with
    | zero => exact ⟨hr, h⟩
    | succ fuel => exact ⟨fun _ => h, by rw [hr]; simp⟩
  | (i, true) :: r, 0, _, _, _, hl, _, _ => by simp at hl
  | (i, false) :: r, 0, _, _, _, hl, _, _ => by simp at hl
  | (i, true) :: r, fuel + 1, listed, a, w, hl, hok, h => by
    simp only [okOrder, Bool.and_eq_true] at hok
    obtain ⟨o, v, ho, hy, hrest⟩ := h
    exact wpAnyE_first hrf htr ho (Region.noSelect_spec hs) (fun c a w => hQ o.dst v c a w) fuel listed a w (Region.free_spec ho hok.1.1) (by simpa using hok.1.2) hy
      (seqE_any hrf htr hs hQ r fuel _ _ _ (by simpa using hl) hok.2 hrest)
  | (i, false) :: r, fuel + 1, listed, a, w, hl, hok, h => by
    simp only [okOrder, Bool.and_eq_true, beq_iff_eq] at hok
    refine ⟨fun h0 => (by rw [h0] at hok; cases hok.1), fun j hj => ?_⟩
    rw [hok.1] at hj
    obtain rfl : j = i := by simpa using hj
    exact wpOp_mono (fun a' w' h' => ⟨h'.1, seqE_any hrf htr hs hQ r fuel _ _ _ (by simpa using hl) hok.2 h'.2⟩) h

/-- what was there stays as it was -/
def Ext (w w' : World) : Prop := Below w.heap.size w w'
theorem Ext.refl (w : World) : Ext w w := Below.refl _ _
theorem op_of {i : Nat} {o : Oper} (h : ops.toList[i]? = some o) : ops[i]? = some o := by rwa [Array.getElem?_toList] at h
theorem SeqE.pass {i : Nat} {o : Oper} {r : List (Nat × Bool)} {a : Act} {w : World} (ho : ops.toList[i]? = some o) (hw : Region.wanted o (yielded ops a.tmps) = false)
    (h : SeqE P ops Q Ext r (a.put o.dst undef) w) : SeqE P ops Q Ext ((i, false) :: r) a w :=
  wpOp_step (op_of ho) fun K' hK => by rw [hw]; exact hK _ _ ⟨Ext.refl _, h⟩
end

end Go.Proofs.YtglmonlofejcgaaDoor
/-! A region whose calls and allocations have no fixed order: the tree of orders, one light step at a time. (No program in sight.) -/
namespace Go.Proofs.YtglmonlofejcgaaDoor
open Go.RowKit

section
variable {P : Program} {ops : Array Oper} {Q : Exit → Act → World → Prop} {B : Nat}

end

end Go.Proofs.YtglmonlofejcgaaDoor
/-! append of a list that can be read onto a row of the call's own. (No program in sight.) -/
namespace Go.Proofs.YtglmonlofejcgaaDoor.Am
open Go.RowKit
set_option linter.unusedVariables false
theorem ListAt.lens {w : World} {v : Value} {sz : Nat} {els : List (List Value)} (h : ListAt w v sz els) : ∀ x ∈ els, x.length = sz := fun x hx => by
  obtain ⟨i, hi⟩ := List.getElem?_of_mem hx
  exact h.len i x hi
/-! rows of a call's own, as lists -/
def blkOf (v : Value) : List Nat := match v.ownBlock with | some k => [k] | none => []
theorem owns_keep {w w' : World} {base : Nat} {e : TypeId} {size : Nat} {v : Value} {n : Nat} {xs : List Value} (h : w.ownsRow base e size v n xs) (hk : ∀ k, k ∈ blkOf v → w'.heap[k]? = w.heap[k]?) : w'.ownsRow base e size v n xs := by
  obtain ⟨h1, h2⟩ := h
  refine ⟨h1, ?_⟩
  rcases h2 with h2 | ⟨g, cap, cur, rfl, hb, hg, r⟩
  · exact .inl h2
  · exact .inr ⟨g, cap, cur, rfl, hb, (hk g (by simp [blkOf, Value.ownBlock])).trans hg, r⟩
theorem owns_in {w : World} {base : Nat} {e : TypeId} {size : Nat} {v : Value} {n : Nat} {xs : List Value} (h : w.ownsRow base e size v n xs) : ∀ k, k ∈ blkOf v → base ≤ k ∧ k < w.heap.size := fun k hk => by
  refine h.lt k ?_
  unfold blkOf at hk
  cases ho : v.ownBlock with
  | none => rw [ho] at hk; cases hk
  | some j => rw [ho] at hk; simp only [List.mem_singleton] at hk; rw [hk]
theorem flat_get {sz : Nat} : ∀ {l : List (List Value)} {i f : Nat} {el : List Value} {u : Value}, (∀ x ∈ l, x.length = sz) → l[i]? = some el → el[f]? = some u → l.flatten[i * sz + f]? = some u
  | [], i, f, el, u, _, h, _ => by simp at h
  | x :: l, 0, f, el, u, hl, h, k => by
    simp only [List.getElem?_cons_zero, Option.some.injEq] at h
    subst h
    rw [List.flatten_cons, Nat.zero_mul, Nat.zero_add, List.getElem?_append_left (List.getElem?_eq_some_iff.1 k).1]
    exact k
  | x :: l, i + 1, f, el, u, hl, h, k => by
    have hx := hl x (List.mem_cons_self ..)
    rw [List.flatten_cons, List.getElem?_append_right (by rw [Nat.succ_mul]; omega), show (i + 1) * sz + f - x.length = i * sz + f by rw [Nat.succ_mul]; omega]
    exact flat_get (fun y hy => hl y (List.mem_cons_of_mem _ hy)) (by simpa using h) k
theorem ListAt.of_own {w : World} {base : Nat} {e : TypeId} {sz : Nat} {v : Value} {els : List (List Value)} (h : w.ownsRow base e sz v els.length els.flatten) (hl : ∀ x ∈ els, x.length = sz) : ListAt w v sz els := by
  obtain ⟨h1, h2⟩ := h
  rcases h2 with ⟨rfl, h0⟩ | ⟨g, cap, cur, rfl, hb, hg, hn, hm, hs, ht⟩
  · have : els = [] := List.eq_nil_of_length_eq_zero h0
    subst this
    exact ⟨⟨none, 0, rfl⟩, by simp, fun i el h => by simp at h, fun i el h => by simp at h, fun h => absurd rfl h⟩
  · refine ⟨⟨_, _, rfl⟩, by unfold maxLen at hm; omega, fun i el hi => ⟨g, 0, cap, rfl, fun f u hf => ?_⟩, fun i el hi => hl el (List.mem_of_getElem? hi), fun _ A n c e => ?_⟩
    · have hfl := flat_get hl hi hf
      rw [← ht, List.getElem?_take] at hfl
      rw [Nat.zero_add, cell_of_row w g _ cur e (0, 0) hg]
      split at hfl
      · simpa using hfl
      · cases hfl
    · cases e
      exact ⟨hn, hm⟩
theorem at_alloc {w : World} {o : Obj} {H : Nat} (hH : w.heap.size = H) : (w.alloc o).heap[H]? = some o := hH ▸ heap_alloc_new w o
theorem at_more {w : World} {o x : Obj} {k : Nat} (h : w.heap[k]? = some x) : (w.alloc o).heap[k]? = some x := by
  rw [heap_alloc_old w o (Array.getElem?_eq_some_iff.1 h).1]
  exact h
theorem cell_more {w : World} {o : Obj} {a : Addr} {v : Value} (h : w.cell? a = some v) : (w.alloc o).cell? a = some v := by
  rw [← h]
  exact World.cell?_of_block (heap_alloc_old w o (World.block_lt_of_cell? w a h))
theorem blkOf_some {v : Value} {k : Nat} (h : v.ownBlock = some k) : blkOf v = [k] := by unfold blkOf; rw [h]
theorem mem_blkOf {v : Value} {k : Nat} : k ∈ blkOf v ↔ v.ownBlock = some k := by
  unfold blkOf
  cases v.ownBlock with
  | none => simp
  | some j => simp [eq_comm]
/-! steps of a region, at whatever world -/
/-- all that was there, but for one block -/
def Kept (r : Option Nat) (w w' : World) : Prop := ∀ k x, some k ≠ r → w.heap[k]? = some x → w'.heap[k]? = some x
theorem Kept.owns {r : Option Nat} {w w' : World} (hk : Kept r w w') {base : Nat} {e : TypeId} {size : Nat} {v : Value} {n : Nat} {xs : List Value} (h : w.ownsRow base e size v n xs) (hr : ∀ k, v.ownBlock = some k → some k ≠ r) : w'.ownsRow base e size v n xs := by
  obtain ⟨h1, h2⟩ := h
  refine ⟨h1, ?_⟩
  rcases h2 with h2 | ⟨g, cap, cur, rfl, hb, hg, q⟩
  · exact .inl h2
  · exact .inr ⟨g, cap, cur, rfl, hb, hk g _ (hr g rfl) hg, q⟩
section
variable {P : Program} {ops : Array Oper} {Q : Exit → Act → World → Prop} {B i : Nat} {o : Oper} {a : Act} {w : World} {R : Act → World → Prop}
end
/-! numbers of blocks that differ -/
end Go.Proofs.YtglmonlofejcgaaDoor.Am
/-! A region that draws its order, what it reads early lying in blocks that it does not write. (No program in sight.) -/
namespace Go.Proofs.YtglmonlofejcgaaDoor.Am
open Go.RowKit Go.Proofs.YtglmonlofejcgaaDoor
set_option linter.unusedVariables false
set_option linter.unusedSectionVars false
/-- these blocks stay as they are -/
def Held (S : List Nat) (w W : World) : Prop := ∀ k ∈ S, ∀ x, w.heap[k]? = some x → W.heap[k]? = some x
theorem Kept.held {r : Option Nat} {w w' : World} (h : Kept r w w') {S : List Nat} (hr : ∀ k ∈ S, some k ≠ r) : Held S w w' := fun k hk x hx => h k x (hr k hk) hx
section
variable {P : Program} {ops : Array Oper} {Q : Exit → Act → World → Prop} {S : List Nat}
variable {i : Nat} {o : Oper} {a : Act} {w : World} {R : Act → World → Prop}
end
theorem ListAt.of_block {w : World} {H c : Nat} {cs : Array Value} {t : TypeId} (hb : w.heap[H]? = some (.cells cs t (0, 0))) {sz : Nat} (hs : cs.size = sz) (hc : 1 ≤ c ∧ c ≤ maxLen) : ListAt w (.slice (some ⟨H, 0, none⟩) 1 c) sz [cs.toList] :=
  ⟨⟨_, _, rfl⟩, by simp, fun i el hi => by
    have h0 : i = 0 := by have := (List.getElem?_eq_some_iff.1 hi).1; simpa using this
    subst h0
    simp only [List.getElem?_cons_zero, Option.some.injEq] at hi
    subst hi
    refine ⟨H, 0, c, rfl, fun f u hf => ?_⟩
    rw [cell_of_row w H _ cs t (0, 0) hb]
    simpa using hf, fun i el hi => by
    have h0 : i = 0 := by have := (List.getElem?_eq_some_iff.1 hi).1; simpa using this
    subst h0
    simp only [List.getElem?_cons_zero, Option.some.injEq] at hi
    subst hi
    simpa using hs, fun _ A n c' e => by cases e; exact hc⟩
/-! a struct of four cells in a block of its own -/
def Box (w : World) (H : Nat) (t : TypeId) (a b c d : Value) : Prop := w.heap[H]? = some (.cells #[a, b, c, d] t (0, 0))
theorem Box.cells {w : World} {H : Nat} {t : TypeId} {a b c d : Value} (h : Box w H t a b c d) : w.cell? ⟨H, 0, none⟩ = some a ∧ w.cell? ⟨H, 1, none⟩ = some b ∧ w.cell? ⟨H, 2, none⟩ = some c ∧ w.cell? ⟨H, 3, none⟩ = some d := by
  refine ⟨?_, ?_, ?_, ?_⟩ <;> (rw [cell_of_row w H _ _ t (0, 0) h]; rfl)
theorem Box.lt {w : World} {H : Nat} {t : TypeId} {a b c d : Value} (h : Box w H t a b c d) : H < w.heap.size := (Array.getElem?_eq_some_iff.1 h).1
theorem Box.below {w w' : World} {H : Nat} {t : TypeId} {a b c d : Value} (h : Box w H t a b c d) (hb : Below w.heap.size w w') : Box w' H t a b c d := (hb.block H h.lt).trans h
theorem Box.mk {w : World} {t : TypeId} {a b c d : Value} {H : Nat} (hH : w.heap.size = H) : Box (w.alloc (.cells #[a, b, c, d] t)) H t a b c d := at_alloc hH
theorem Box.more {w : World} {o : Obj} {H : Nat} {t : TypeId} {a b c d : Value} (h : Box w H t a b c d) : Box (w.alloc o) H t a b c d := at_more h
end Go.Proofs.YtglmonlofejcgaaDoor.Am
