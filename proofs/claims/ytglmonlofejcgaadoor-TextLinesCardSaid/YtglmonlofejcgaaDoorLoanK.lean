/- Small words for memory that the other texts use (no program in sight). Small words on strings and bytes (no program in sight). Increasing: the numbers of the truth values that are true, in order. A region that draws its order, walked in ONE order: what only reads is taken as soon as it may come up, if its value stands in every later world; what changes the world must be the only one that may come up. (No program in sight.) A region whose calls and allocations have no fixed order: the tree of orders, one light step at a time. (No program in sight.) append of a list that can be read onto a row of the call's own. (No program in sight.) A region that draws its order, what it reads early lying in blocks that it does not write. (No program in sight.) The points of a function and its loans, plain. (No program in sight.) Words for walks over functions: lists of the arguments as rows of ranges; append of an element of several cells. (No program in sight.) -/
import Derived.WalkKit
import Derived.WalkSpells
import Derived.WalkLawsBesides
import Derived.IntWalk
import Derived.Lib.Hide
import Derived.Laws.BytesArg
import Derived.Lib.ConvBytes
import Derived.OpenShut
import Derived.Test.YtglmonlofejcgaaDoorProg
import Derived.Test.YtglmonlofejcgaaDoorAmC
import Derived.OrdersHeld
import Derived.RegionTactic
import Derived.Test.YtglmonlofejcgaaDoorFuncIs
import Derived.Test.YtglmonlofejcgaaDoorFn0
import Derived.Deep.MidRow
import Derived.Laws.AppendOwnNone
import Derived.Maps.AppendAt
import Derived.Deep.AppendLies
import Derived.Test.YtglmonlofejcgaaDoorFn1
namespace Go.Proofs.YtglmonlofejcgaaDoor
open Go.RowKit
end Go.Proofs.YtglmonlofejcgaaDoor
namespace Go.Proofs.YtglmonlofejcgaaDoor
open Go.RowKit
end Go.Proofs.YtglmonlofejcgaaDoor
namespace Go.Proofs.YtglmonlofejcgaaDoor
open Go.RowKit Go.Proofs.YtglmonlofejcgaaDoor.Am
namespace Am
end Am
end Go.Proofs.YtglmonlofejcgaaDoor
namespace Go.Proofs.YtglmonlofejcgaaDoor
open Go.RowKit
section
variable {P : Program} {ops : Array Oper} {Q : Exit → Act → World → Prop} {md : Region.Mode} {E : World → World → Prop}
def wpAnyE (P : Program) (md : Region.Mode) (ops : Array Oper) (Q : Exit → Act → World → Prop) (E : World → World → Prop) : Nat → Array Bool → Act → World → Prop
 | 0, listed, a, w => Region.ready md ops listed = [] ∧ Q .normal a w
 | fuel + 1, listed, a, w =>
  (Region.ready md ops listed = [] → Q .normal a w) ∧
  ∀ i ∈ Region.ready md ops listed, wpOp P ops Q i (fun a' w' => E w w' ∧ wpAnyE P md ops Q E fuel (listed.setIfInBounds i true) a' w') a w
theorem wpAny_of_E : ∀ (fuel : Nat) (listed : Array Bool) (a : Act) (w : World), wpAnyE P md ops Q E fuel listed a w → wpAny P md ops Q fuel listed a w
 | 0, _, _, _, h => h
 | fuel + 1, _, _, _, h => ⟨h.1, fun i hi => wpOp_mono (fun a' w' h' => wpAny_of_E fuel _ a' w' h'.2) (h.2 i hi)⟩
theorem yields_later {o : Oper} {v : Value} {a : Act} {w w' : World} (htr : ∀ a b c, E a b → E b c → E a c) (he : E w w') (h : YieldsIf P ops (E w) o v a) : YieldsIf P ops (E w') o v a :=
 h.imp (fun ⟨hw, hv⟩ => ⟨hw, fun W hW => hv W (htr _ _ _ he hW)⟩) id
theorem wpAnyE_first (hrf : ∀ w, E w w) (htr : ∀ a b c, E a b → E b c → E a c) {i : Nat} {oi : Oper} {v : Value} (hi : ops[i]? = some oi) (hsel : ∀ (j : Nat) (o : Oper) cs b, ops[j]? = some o → o.op ≠ .select cs b)
  (hQ : ∀ c a w, Q (.panic c) (a.put oi.dst v) w → Q (.panic c) a w) :
  ∀ (fuel : Nat) (listed : Array Bool) (a : Act) (w : World),
   (∀ j oj, ops[j]? = some oj → j ≠ i → listed.getD j true = false → (∀ e ∈ oj.after, Region.binds md e = true → e.on ≠ i) → oi.apart ops oj = true) →
   i ∈ Region.ready md ops listed → YieldsIf P ops (E w) oi v a →
   wpAnyE P md ops Q E fuel (listed.setIfInBounds i true) (a.put oi.dst v) w → wpAnyE P md ops Q E (fuel + 1) listed a w := by
 intro fuel
 induction fuel with
 | zero =>
  intro listed a w _ hr hy H
  refine ⟨fun h => (by rw [h] at hr; cases hr), fun j hj => ?_⟩
  by_cases hji : j = i
  ·subst hji; exact hy.wpOp hi (hrf w) ⟨hrf w, H⟩
  ·have := ready_mono hj hji
   rw [H.1] at this
   cases this
 | succ fuel ih =>
  intro listed a w hfree hr hy H
  refine ⟨fun h => (by rw [h] at hr; cases hr), fun j hj => ?_⟩
  by_cases hji : j = i
  ·subst hji; exact hy.wpOp hi (hrf w) ⟨hrf w, H⟩
  ·have h1 := H.2 j (ready_mono hj hji)
   obtain ⟨hjun, oj, hoj, hall⟩ := mem_ready.1 hj
   have hnot : ∀ e ∈ oj.after, Region.binds md e = true → e.on ≠ i := fun e he hb heq => by
    have h1 := hall e he hb
    have h0 := (mem_ready.1 hr).1
    rw [heq] at h1
    rcases Nat.lt_or_ge i listed.size with h' | h'
    ·simp [h'] at h0 h1; rw [h0] at h1; cases h1
    ·simp [Array.getElem?_eq_none h'] at h1
   have h2 := wpOp_putIf hoj (hfree j oj hoj hji hjun hnot) (fun cs b => hsel i oi cs b hi) (fun cs b => hsel j oj cs b hoj) hQ hy h1
   have hfree' : ∀ k ok, ops[k]? = some ok → k ≠ i → (listed.setIfInBounds j true).getD k true = false →
     (∀ e ∈ ok.after, Region.binds md e = true → e.on ≠ i) → oi.apart ops ok = true := fun k ok hk hki hun hno => by
    refine hfree k ok hk hki ?_ hno
    by_cases hjk : j = k
    ·subst hjk; exact hjun
    ·rw [getD_set_ne true hjk] at hun; exact hun
   refine wpOp_mono (fun a' w' h3 => ⟨h3.2.1, ih (listed.setIfInBounds j true) a' w' hfree' (ready_mono hr (Ne.symm hji)) (yields_later htr h3.2.1 h3.1) ?_⟩) h2
   rw [Array.setIfInBounds_comm _ _ hji]
   exact h3.2.2
def SeqE (P : Program) (ops : Array Oper) (Q : Exit → Act → World → Prop) (E : World → World → Prop) : List (Nat × Bool) → Act → World → Prop
 | [], a, w => Q .normal a w
 | (i, true) :: r, a, w => ∃ o v, ops[i]? = some o ∧ YieldsIf P ops (E w) o v a ∧ SeqE P ops Q E r (a.put o.dst v) w
 | (i, false) :: r, a, w => wpOp P ops Q i (fun a' w' => E w w' ∧ SeqE P ops Q E r a' w') a w
def okOrder (md : Region.Mode) (ops : Array Oper) : List (Nat × Bool) → Array Bool → Bool
 | [], listed => (Region.ready md ops listed).isEmpty
 | (i, true) :: r, listed => Region.free md ops listed i && (Region.ready md ops listed).contains i && okOrder md ops r (listed.setIfInBounds i true)
 | (i, false) :: r, listed => Region.ready md ops listed == [i] && okOrder md ops r (listed.setIfInBounds i true)
theorem seqE_any (hrf : ∀ w, E w w) (htr : ∀ a b c, E a b → E b c → E a c) (hs : Region.noSelect ops = true) (hQ : ∀ (d : Option Tmp) (v : Value) c a w, Q (.panic c) (a.put d v) w → Q (.panic c) a w) :
  ∀ (r : List (Nat × Bool)) (fuel : Nat) (listed : Array Bool) (a : Act) (w : World), r.length ≤ fuel → okOrder md ops r listed = true → SeqE P ops Q E r a w → wpAnyE P md ops Q E fuel listed a w
 | [], fuel, listed, a, w, _, hok, h => by
  have hr : Region.ready md ops listed = [] := by simpa [okOrder] using hok
  cases fuel with
  | zero => exact ⟨hr, h⟩
  | succ fuel => exact ⟨fun _ => h, by rw [hr]; simp⟩
 | (i, true) :: r, 0, _, _, _, hl, _, _ => by simp at hl
 | (i, false) :: r, 0, _, _, _, hl, _, _ => by simp at hl
 | (i, true) :: r, fuel + 1, listed, a, w, hl, hok, h => by
  simp only [okOrder, Bool.and_eq_true] at hok
  obtain ⟨o, v, ho, hy, hrest⟩ := h
  exact wpAnyE_first hrf htr ho (Region.noSelect_spec hs) (fun c a w => hQ o.dst v c a w) fuel listed a w (Region.free_spec ho hok.1.1) (by simpa using hok.1.2) hy
   (seqE_any hrf htr hs hQ r fuel _ _ _ (by simpa using hl) hok.2 hrest)
 | (i, false) :: r, fuel + 1, listed, a, w, hl, hok, h => by
  simp only [okOrder, Bool.and_eq_true, beq_iff_eq] at hok
  refine ⟨fun h0 => (by rw [h0] at hok; cases hok.1), fun j hj => ?_⟩
  rw [hok.1] at hj
  obtain rfl : j = i := by simpa using hj
  exact wpOp_mono (fun a' w' h' => ⟨h'.1, seqE_any hrf htr hs hQ r fuel _ _ _ (by simpa using hl) hok.2 h'.2⟩) h
def Ext (w w' : World) : Prop := Below w.heap.size w w'
theorem Ext.refl (w : World) : Ext w w := Below.refl _ _
theorem op_of {i : Nat} {o : Oper} (h : ops.toList[i]? = some o) : ops[i]? = some o := by rwa [Array.getElem?_toList] at h
theorem SeqE.pass {i : Nat} {o : Oper} {r : List (Nat × Bool)} {a : Act} {w : World} (ho : ops.toList[i]? = some o) (hw : Region.wanted o (yielded ops a.tmps) = false)
  (h : SeqE P ops Q Ext r (a.put o.dst undef) w) : SeqE P ops Q Ext ((i, false) :: r) a w :=
 wpOp_step (op_of ho) fun K' hK => by rw [hw]; exact hK _ _ ⟨Ext.refl _, h⟩
end
end Go.Proofs.YtglmonlofejcgaaDoor
namespace Go.Proofs.YtglmonlofejcgaaDoor
open Go.RowKit
section
variable {P : Program} {ops : Array Oper} {Q : Exit → Act → World → Prop} {B : Nat}
end
end Go.Proofs.YtglmonlofejcgaaDoor
namespace Go.Proofs.YtglmonlofejcgaaDoor.Am
open Go.RowKit
set_option linter.unusedVariables false
theorem ListAt.lens {w : World} {v : Value} {sz : Nat} {els : List (List Value)} (h : ListAt w v sz els) : ∀ x ∈ els, x.length = sz := fun x hx => by
 obtain ⟨i, hi⟩ := List.getElem?_of_mem hx
 exact h.len i x hi
def blkOf (v : Value) : List Nat := match v.ownBlock with | some k => [k] | none => []
theorem owns_keep {w w' : World} {base : Nat} {e : TypeId} {size : Nat} {v : Value} {n : Nat} {xs : List Value} (h : w.ownsRow base e size v n xs) (hk : ∀ k, k ∈ blkOf v → w'.heap[k]? = w.heap[k]?) : w'.ownsRow base e size v n xs := by
 obtain ⟨h1, h2⟩ := h
 refine ⟨h1, ?_⟩
 rcases h2 with h2 | ⟨g, cap, cur, rfl, hb, hg, r⟩
 ·exact .inl h2
 ·exact .inr ⟨g, cap, cur, rfl, hb, (hk g (by simp [blkOf, Value.ownBlock])).trans hg, r⟩
theorem owns_base {w : World} {base base' : Nat} {e : TypeId} {size : Nat} {v : Value} {n : Nat} {xs : List Value} (h : w.ownsRow base e size v n xs) (hb : base' ≤ base) : w.ownsRow base' e size v n xs := by
 obtain ⟨h1, h2⟩ := h
 refine ⟨h1, ?_⟩
 rcases h2 with h2 | ⟨g, cap, cur, rfl, hg, r⟩
 ·exact .inl h2
 ·exact .inr ⟨g, cap, cur, rfl, by omega, r⟩
theorem owns_in {w : World} {base : Nat} {e : TypeId} {size : Nat} {v : Value} {n : Nat} {xs : List Value} (h : w.ownsRow base e size v n xs) : ∀ k, k ∈ blkOf v → base ≤ k ∧ k < w.heap.size := fun k hk => by
 refine h.lt k ?_
 unfold blkOf at hk
 cases ho : v.ownBlock with
 | none => rw [ho] at hk; cases hk
 | some j => rw [ho] at hk; simp only [List.mem_singleton] at hk; rw [hk]
theorem flat_get {sz : Nat} : ∀ {l : List (List Value)} {i f : Nat} {el : List Value} {u : Value}, (∀ x ∈ l, x.length = sz) → l[i]? = some el → el[f]? = some u → l.flatten[i * sz + f]? = some u
 | [], i, f, el, u, _, h, _ => by simp at h
 | x :: l, 0, f, el, u, hl, h, k => by
  simp only [List.getElem?_cons_zero, Option.some.injEq] at h
  subst h
  rw [List.flatten_cons, Nat.zero_mul, Nat.zero_add, List.getElem?_append_left (List.getElem?_eq_some_iff.1 k).1]
  exact k
 | x :: l, i + 1, f, el, u, hl, h, k => by
  have hx := hl x (List.mem_cons_self ..)
  rw [List.flatten_cons, List.getElem?_append_right (by rw [Nat.succ_mul]; omega), show (i + 1) * sz + f - x.length = i * sz + f by rw [Nat.succ_mul]; omega]
  exact flat_get (fun y hy => hl y (List.mem_cons_of_mem _ hy)) (by simpa using h) k
theorem ListAt.of_own {w : World} {base : Nat} {e : TypeId} {sz : Nat} {v : Value} {els : List (List Value)} (h : w.ownsRow base e sz v els.length els.flatten) (hl : ∀ x ∈ els, x.length = sz) : ListAt w v sz els := by
 obtain ⟨h1, h2⟩ := h
 rcases h2 with ⟨rfl, h0⟩ | ⟨g, cap, cur, rfl, hb, hg, hn, hm, hs, ht⟩
 ·have : els = [] := List.eq_nil_of_length_eq_zero h0
  subst this
  exact ⟨⟨none, 0, rfl⟩, by simp, fun i el h => by simp at h, fun i el h => by simp at h, fun h => absurd rfl h⟩
 ·refine ⟨⟨_, _, rfl⟩, by unfold maxLen at hm; omega, fun i el hi => ⟨g, 0, cap, rfl, fun f u hf => ?_⟩, fun i el hi => hl el (List.mem_of_getElem? hi), fun _ A n c e => ?_⟩
  ·have hfl := flat_get hl hi hf
   rw [← ht, List.getElem?_take] at hfl
   rw [Nat.zero_add, cell_of_row w g _ cur e (0, 0) hg]
   split at hfl
   ·simpa using hfl
   ·cases hfl
  ·cases e
   exact ⟨hn, hm⟩
theorem at_alloc {w : World} {o : Obj} {H : Nat} (hH : w.heap.size = H) : (w.alloc o).heap[H]? = some o := hH ▸ heap_alloc_new w o
theorem at_more {w : World} {o x : Obj} {k : Nat} (h : w.heap[k]? = some x) : (w.alloc o).heap[k]? = some x := by
 rw [heap_alloc_old w o (Array.getElem?_eq_some_iff.1 h).1]
 exact h
theorem cell_more {w : World} {o : Obj} {a : Addr} {v : Value} (h : w.cell? a = some v) : (w.alloc o).cell? a = some v := by
 rw [← h]
 exact World.cell?_of_block (heap_alloc_old w o (World.block_lt_of_cell? w a h))
theorem at_grown {w w' : World} {row : Option Nat} {x : Obj} {k : Nat} (hg : w.grownBy w' row) (h : w.heap[k]? = some x) (hne : some k ≠ row) : w'.heap[k]? = some x := by
 rw [hg.block k (Array.getElem?_eq_some_iff.1 h).1 hne]
 exact h
theorem blkOf_some {v : Value} {k : Nat} (h : v.ownBlock = some k) : blkOf v = [k] := by unfold blkOf; rw [h]
theorem mem_blkOf {v : Value} {k : Nat} : k ∈ blkOf v ↔ v.ownBlock = some k := by
 unfold blkOf
 cases v.ownBlock with
 | none => simp
 | some j => simp [eq_comm]
def Kept (r : Option Nat) (w w' : World) : Prop := ∀ k x, some k ≠ r → w.heap[k]? = some x → w'.heap[k]? = some x
theorem Kept.owns {r : Option Nat} {w w' : World} (hk : Kept r w w') {base : Nat} {e : TypeId} {size : Nat} {v : Value} {n : Nat} {xs : List Value} (h : w.ownsRow base e size v n xs) (hr : ∀ k, v.ownBlock = some k → some k ≠ r) : w'.ownsRow base e size v n xs := by
 obtain ⟨h1, h2⟩ := h
 refine ⟨h1, ?_⟩
 rcases h2 with h2 | ⟨g, cap, cur, rfl, hb, hg, q⟩
 ·exact .inl h2
 ·exact .inr ⟨g, cap, cur, rfl, hb, hk g _ (hr g rfl) hg, q⟩
section
variable {P : Program} {ops : Array Oper} {Q : Exit → Act → World → Prop} {B i : Nat} {o : Oper} {a : Act} {w : World} {R : Act → World → Prop}
end
end Go.Proofs.YtglmonlofejcgaaDoor.Am
namespace Go.Proofs.YtglmonlofejcgaaDoor.Am
open Go.RowKit Go.Proofs.YtglmonlofejcgaaDoor
set_option linter.unusedVariables false
set_option linter.unusedSectionVars false
def Held (S : List Nat) (w W : World) : Prop := ∀ k ∈ S, ∀ x, w.heap[k]? = some x → W.heap[k]? = some x
theorem Kept.held {r : Option Nat} {w w' : World} (h : Kept r w w') {S : List Nat} (hr : ∀ k ∈ S, some k ≠ r) : Held S w w' := fun k hk x hx => h k x (hr k hk) hx
section
variable {P : Program} {ops : Array Oper} {Q : Exit → Act → World → Prop} {S : List Nat}
variable {i : Nat} {o : Oper} {a : Act} {w : World} {R : Act → World → Prop}
end
theorem ListAt.of_block {w : World} {H c : Nat} {cs : Array Value} {t : TypeId} (hb : w.heap[H]? = some (.cells cs t (0, 0))) {sz : Nat} (hs : cs.size = sz) (hc : 1 ≤ c ∧ c ≤ maxLen) : ListAt w (.slice (some ⟨H, 0, none⟩) 1 c) sz [cs.toList] :=
 ⟨⟨_, _, rfl⟩, by simp, fun i el hi => by
  have h0 : i = 0 := by have := (List.getElem?_eq_some_iff.1 hi).1; simpa using this
  subst h0
  simp only [List.getElem?_cons_zero, Option.some.injEq] at hi
  subst hi
  refine ⟨H, 0, c, rfl, fun f u hf => ?_⟩
  rw [cell_of_row w H _ cs t (0, 0) hb]
  simpa using hf, fun i el hi => by
  have h0 : i = 0 := by have := (List.getElem?_eq_some_iff.1 hi).1; simpa using this
  subst h0
  simp only [List.getElem?_cons_zero, Option.some.injEq] at hi
  subst hi
  simpa using hs, fun _ A n c' e => by cases e; exact hc⟩
def Box (w : World) (H : Nat) (t : TypeId) (a b c d : Value) : Prop := w.heap[H]? = some (.cells #[a, b, c, d] t (0, 0))
theorem Box.cells {w : World} {H : Nat} {t : TypeId} {a b c d : Value} (h : Box w H t a b c d) : w.cell? ⟨H, 0, none⟩ = some a ∧ w.cell? ⟨H, 1, none⟩ = some b ∧ w.cell? ⟨H, 2, none⟩ = some c ∧ w.cell? ⟨H, 3, none⟩ = some d := by
 refine ⟨?_, ?_, ?_, ?_⟩ <;> (rw [cell_of_row w H _ _ t (0, 0) h]; rfl)
theorem Box.lt {w : World} {H : Nat} {t : TypeId} {a b c d : Value} (h : Box w H t a b c d) : H < w.heap.size := (Array.getElem?_eq_some_iff.1 h).1
theorem Box.below {w w' : World} {H : Nat} {t : TypeId} {a b c d : Value} (h : Box w H t a b c d) (hb : Below w.heap.size w w') : Box w' H t a b c d := (hb.block H h.lt).trans h
theorem Box.mk {w : World} {t : TypeId} {a b c d : Value} {H : Nat} (hH : w.heap.size = H) : Box (w.alloc (.cells #[a, b, c, d] t)) H t a b c d := at_alloc hH
theorem Box.more {w : World} {o : Obj} {H : Nat} {t : TypeId} {a b c d : Value} (h : Box w H t a b c d) : Box (w.alloc o) H t a b c d := at_more h
end Go.Proofs.YtglmonlofejcgaaDoor.Am
namespace Go.Proofs.YtglmonlofejcgaaDoor.loan
open Go.RowKit Go.Proofs.YtglmonlofejcgaaDoor Go.Proofs.YtglmonlofejcgaaDoor.Am
set_option linter.unusedVariables false
def lenB (bs : List BlkD) (i : Nat) : Nat := (bs.getD i b0).st.length
def startOf (bs : List BlkD) : Nat → Nat
 | 0 => 0
 | i + 1 => startOf bs i + (lenB bs i + 1)
def rowPts (i n : Nat) : List (Nat × Nat) := (List.range n).map fun k => (i, k)
def ptsTo (bs : List BlkD) : Nat → List (Nat × Nat)
 | 0 => []
 | i + 1 => ptsTo bs i ++ rowPts i (lenB bs i + 1)
def ptsAt (bs : List BlkD) (i k : Nat) : List (Nat × Nat) := ptsTo bs i ++ rowPts i k
section
variable {bs : List BlkD} {i j k n N : Nat}
theorem row_len (i n : Nat) : (rowPts i n).length = n := by simp [rowPts]
theorem to_len (bs : List BlkD) : ∀ i, (ptsTo bs i).length = startOf bs i
 | 0 => rfl
 | i + 1 => by
  show (ptsTo bs i ++ rowPts i (lenB bs i + 1)).length = _
  rw [List.length_append, to_len bs i, row_len]
  rfl
theorem row_next : rowPts i (k + 1) = rowPts i k ++ [(i, k)] := by simp [rowPts, List.range_succ]
theorem at_next : ptsAt bs i (k + 1) = ptsAt bs i k ++ [(i, k)] := by
 unfold ptsAt
 rw [row_next, List.append_assoc]
theorem at_roll : ptsAt bs i (lenB bs i + 1) = ptsAt bs (i + 1) 0 := by
 show _ = (ptsTo bs i ++ rowPts i (lenB bs i + 1)) ++ rowPts (i + 1) 0
 simp [ptsAt, rowPts]
theorem at_zero : ptsAt bs i 0 = ptsTo bs i := by simp [ptsAt, rowPts]
theorem to_pre (h : i ≤ j) : ∃ t, ptsTo bs j = ptsTo bs i ++ t := by
 induction j with
 | zero => exact ⟨[], by rw [show i = 0 by omega]; simp⟩
 | succ j ih =>
  by_cases hij : i = j + 1
  ·exact ⟨[], by rw [hij]; simp⟩
  ·obtain ⟨t, e⟩ := ih (by omega)
   exact ⟨t ++ rowPts j (lenB bs j + 1), by show ptsTo bs j ++ _ = _; rw [e, List.append_assoc]⟩
theorem start_mono (h : i ≤ j) : startOf bs i ≤ startOf bs j := by
 obtain ⟨t, e⟩ := to_pre (bs := bs) h
 have := congrArg List.length e
 rw [List.length_append, to_len, to_len] at this
 omega
theorem pt_get (hi : i < N) (hk : k ≤ lenB bs i) : (ptsTo bs N)[startOf bs i + k]? = some (i, k) := by
 obtain ⟨t, e⟩ := to_pre (bs := bs) (i := i + 1) (j := N) (by omega)
 have h2 : ptsTo bs (i + 1) = ptsTo bs i ++ rowPts i (lenB bs i + 1) := rfl
 rw [e, h2, List.append_assoc, List.getElem?_append_right (by rw [to_len]; omega), to_len, show startOf bs i + k - startOf bs i = k by omega, List.getElem?_append_left (by rw [row_len]; omega)]
 simp [rowPts, show k < lenB bs i + 1 by omega]
theorem pt_ex (h : n < startOf bs N) : ∃ i k, i < N ∧ k ≤ lenB bs i ∧ n = startOf bs i + k := by
 induction N with
 | zero => exact absurd h (by show ¬ n < 0; omega)
 | succ N ih =>
  by_cases hn : n < startOf bs N
  ·obtain ⟨i, k, h1, h2, h3⟩ := ih hn
   exact ⟨i, k, by omega, h2, h3⟩
  ·have h2 : startOf bs (N + 1) = startOf bs N + (lenB bs N + 1) := rfl
   exact ⟨N, n - startOf bs N, by omega, by omega, by omega⟩
theorem start_le (hs : ∀ i, lenB bs i ≤ 24) : ∀ i, startOf bs i ≤ 25 * i
 | 0 => Nat.le_refl _
 | i + 1 => by
  have h1 := start_le hs i
  have h2 : startOf bs (i + 1) = startOf bs i + (lenB bs i + 1) := rfl
  have := hs i
  omega
theorem start_up (i : Nat) : i ≤ startOf bs i := by
 induction i with
 | zero => exact Nat.le_refl _
 | succ i ih =>
  have h2 : startOf bs (i + 1) = startOf bs i + (lenB bs i + 1) := rfl
  omega
theorem getD_mem {b : BlkD} (h : bs[i]? = some b) : bs.getD i b0 = b := by rw [List.getD_eq_getElem?_getD, h]; rfl
theorem lenB_of {b : BlkD} (h : bs[i]? = some b) : lenB bs i = b.st.length := by unfold lenB; rw [getD_mem h]
theorem lenB_le (h : ∀ b ∈ bs, b.st.length ≤ 24) (i : Nat) : lenB bs i ≤ 24 := by
 unfold lenB
 rcases get_or (l := bs) (i := i) (d := b0) with k | k
 ·exact h _ k
 ·rw [k]; decide
end
section
variable {bs : List BlkD} {i j k n N : Nat} {el x : List Value}
end
end Go.Proofs.YtglmonlofejcgaaDoor.loan
namespace Go.Proofs.YtglmonlofejcgaaDoor.loan
open Go.RowKit Go.Proofs.YtglmonlofejcgaaDoor Go.Proofs.YtglmonlofejcgaaDoor.Am
set_option linter.unusedVariables false
def RowsAt (w : World) (A : Option Addr) (sz : Nat) (els : List (List Value)) : Prop :=
 ∀ i el, els[i]? = some el → ∃ g o, A = some ⟨g, o, none⟩ ∧ g < w.heap.size ∧ w.rangeAt g (o + i * sz) el
theorem RowsAt.below {w w' : World} {A : Option Addr} {sz : Nat} {els : List (List Value)} (h : RowsAt w A sz els) (hb : Below w.heap.size w w') : RowsAt w' A sz els := fun i el hi => by
 obtain ⟨g, o, e, hg, hr⟩ := h i el hi
 exact ⟨g, o, e, Nat.lt_of_lt_of_le hg hb.size, fun j v hj => (hb.cell (p := ⟨g, o + i * sz + j, none⟩) hg).trans (hr j v hj)⟩
theorem ListAt.rows {w : World} {v : Value} {sz : Nat} {els : List (List Value)} (h : ListAt w v sz els) (hz : 0 < sz) : ∃ A c, v = .slice A els.length c ∧ (els.length : Int) ≤ 9223372036854775807 ∧ RowsAt w A sz els := by
 obtain ⟨A, c, e⟩ := h.sl
 refine ⟨A, c, e, h.most, fun i el hi => ?_⟩
 obtain ⟨b, off, c', e', hc⟩ := h.at_ i el hi
 rw [e] at e'
 cases e'
 have hl := h.len i el hi
 obtain ⟨u, hu⟩ : ∃ u, el[0]? = some u := ⟨_, List.getElem?_eq_getElem (by omega)⟩
 exact ⟨b, off, rfl, World.block_lt_of_cell? w ⟨b, off + i * sz + 0, none⟩ (hc 0 u hu), hc⟩
theorem RowsAt.own {w : World} {base : Nat} {e : TypeId} {sz n : Nat} {v : Value} {els : List (List Value)} (h : w.ownsRow base e sz v n els.flatten) (hn : els.length = n) (hz : 0 < sz) (hl : ∀ x ∈ els, x.length = sz) : ∃ A c, v = .slice A els.length c ∧ RowsAt w A sz els := by
 subst hn
 obtain ⟨A, c, e, _, r⟩ := ListAt.rows (ListAt.of_own h hl) hz
 exact ⟨A, c, e, r⟩
theorem wpList_appendN {P : Program} {ops : Array Oper} {rest : List Oper} {o : Oper} {a : Act} {Q : Exit → Act → World → Prop} {w0 W : World} (hgd : o.guard = none) (s x : Operand) (t : TypeId)
  (ho : o.op = .call { callee := .builtin .append, args := #[s, x], argTypes := #[t, t] })
  (B : Nat) (e : TypeId) (z : Value) (size bytes : Nat) (ht : P.underlying t = some (.slice e)) (hrow : (P.info? e).map (fun i => (i.zero, i.size, i.bytes)) = some (some z, size, bytes)) (hzs : z.cells.size = size) (hsz : 0 < size)
  (v : Value) (n : Nat) (xs : List Value) (hs : a.eval s = v) (hown : W.ownsRow B e size v n xs)
  (us : List Value) (g c : Nat) (hx : a.eval x = .slice (some ⟨g, 0, none⟩) 1 c) (hg : W.heap[g]? = some (.cells us.toArray e (0, 0))) (hl : us.length = size) (h1 : ∀ u ∈ us, u.oneCell' = true)
  (hn : n < 1000000) (hby : bytes ≤ 1024) (hbel : Below B w0 W) (hB : B ≤ W.heap.size)
  (h : ∀ v' w', w'.ownsRow B e size v' (n + 1) (xs ++ us) → Below B w0 w' → wpList P ops Q rest (a.put o.dst v') w') : wpList P ops Q (o :: rest) a W := by
 obtain ⟨i0, hi, hz0, hz1, hz2⟩ := info_parts hrow
 have hmul : (n + 1) * bytes ≤ 1000000 * 1024 := Nat.mul_le_mul (by omega) hby
 refine wpList_append_own _ hgd s x t ho B e i0 z size bytes ht hi hz0 hz1 hz2 hzs hsz v n xs hs hown ⟨g, 0, none⟩ 1 c us hx (by omega) (fun j u hu => ?_) h1 (by simp only [maxLen]; omega) (by omega) hB ?_
 ·rw [addr_add, Nat.zero_add, cell_of_row W g j us.toArray e (0, 0) hg]
  simpa using hu
 ·intro v' w' hown' hg' _
  exact h v' w' hown' (hbel.grown hg' hB (fun k hk => (hown.lt k hk).1))
theorem FnOk'.blks {w : World} {v : Value} {D : FnD} (h : FnOk' w v D) : ∃ A c, D.bv = .slice A D.bs.length c ∧ (D.bs.length : Int) ≤ 9223372036854775807 ∧ RowsAt w A 14 (D.bs.map BlkD.cells) := by
 obtain ⟨A, c, e, hm, r⟩ := ListAt.rows h.blocks (by decide)
 rw [List.length_map] at e hm
 exact ⟨A, c, e, hm, r⟩
theorem BlkOk.stms {w : World} {b : BlkD} (h : BlkOk w b) : ∃ A c, b.s = .slice A b.st.length c ∧ (b.st.length : Int) ≤ 9223372036854775807 ∧ RowsAt w A 26 b.st := ListAt.rows h.sts (by decide)
def ptV (p : Nat × Nat) : List Value := [.int .i64 p.1, .int .i64 p.2]
theorem cells_len {w : World} {b : BlkD} (h : BlkOk w b) : b.cells.length = 14 := by
 have l1 := h.prek.len
 have l2 := h.postk.len
 have e1 : kPre.length = 9 := rfl
 have e2 : kPost.length = 3 := rfl
 show (b.s :: (b.pre ++ b.a :: b.post)).length = 14
 simp
 omega
theorem one_of {k : Kd} {v : Value} (h : k.ok v) : v.oneCell' = true := by
 cases k with
 | i x => obtain ⟨n, rfl, _⟩ := h; rfl
 | b => obtain ⟨b, rfl⟩ := h; rfl
 | s => obtain ⟨s, rfl, _⟩ := h; rfl
theorem stm_ones : ∀ {ks : List Kd} {us : List Value}, All2 Kd.ok ks us → ∀ u ∈ us, u.oneCell' = true
 | [], [], _, _, hu => by cases hu
 | k :: ks, v :: us, h, u, hu => by
  rcases List.mem_cons.1 hu with rfl | hu
  ·exact one_of h.1
  ·exact stm_ones h.2 u hu
 | [], _ :: _, h, _, _ => h.elim
 | _ :: _, [], h, _, _ => h.elim
theorem blk_ones {w : World} {b : BlkD} (h : BlkOk w b) : ∀ u ∈ b.cells, u.oneCell' = true := fun u hu => by
 obtain ⟨A, c, e, _⟩ := BlkOk.stms h
 obtain ⟨A2, c2, e2, _⟩ := ListAt.rows h.opl (by decide)
 rcases List.mem_cons.1 hu with rfl | hu
 ·rw [e]; rfl
 ·rcases List.mem_append.1 hu with hu | hu
  ·exact stm_ones h.prek u hu
  ·rcases List.mem_cons.1 hu with rfl | hu
   ·rw [e2]; rfl
   ·exact stm_ones h.postk u hu
theorem alloc_setRow (w : World) (old new : Array Value) (t : TypeId) : (w.alloc (.cells old t)).setRow w.heap.size new = w.alloc (.cells new t) := by
 have h : (w.heap.push (Obj.cells old t)).modify w.heap.size (fun x => match x with | .cells c elem frozen => .cells new elem frozen | o => o) = w.heap.push (Obj.cells new t) := by
  apply Array.ext
  ·simp
  ·intro i h1 h2
   rw [Array.getElem_modify]
   by_cases hi : w.heap.size = i
   ·subst hi
    simp
   ·rw [if_neg hi]
    have : i < w.heap.size := by simp at h2; omega
    rw [Array.getElem_push_lt this, Array.getElem_push_lt this]
 exact congrArg (fun x => ({ heap := x, tape := w.tape, drawn := w.drawn, os := w.os, output := w.output } : World)) h
theorem range_more {w : World} {x : Obj} {b o : Nat} {cs : List Value} (h : w.rangeAt b o cs) : (w.alloc x).rangeAt b o cs := fun j v hj => cell_more (h j v hj)
theorem wpList_store_fresh {P : Program} {ops : Array Oper} {rest : List Oper} {o : Oper} {a : Act} {Q : Exit → Act → World → Prop} (hgd : o.guard = none) (ty : TypeId) (x y : Operand) (ho : o.op = .store ty x y) (hd : o.dst = none)
  (W : World) (H : Nat) (hH : W.heap.size = H) (cells : Array Value) (hx : a.eval x = .pointer (some ⟨H, 0, none⟩)) (hy : a.eval y = .agg cells)
  (t : TypeId) (old : Array Value) (hi : (P.info? ty).map (·.size) = some cells.size) (hold : old.size = cells.size) (h1 : cells.all (·.oneCell') = true)
  (h : wpList P ops Q rest a (W.alloc (.cells cells t))) : wpList P ops Q (o :: rest) a (W.alloc (.cells old t)) := by
 subst hH
 refine wpList_store_row hgd ty x y ho W.heap.size cells hx hy t old (at_alloc rfl) hi hold h1 ?_
 rw [alloc_setRow, hd]
 exact h
theorem run_store_fresh {P : Program} {W : World} {H : Nat} {cells : List Value} {old : Array Value} {t : TypeId} (hH : W.heap.size = H) (hold : old.size = cells.length) (h1 : ∀ u, u ∈ cells → u.oneCell' = true) :
  (storeCells ⟨H, 0, none⟩ cells).run P (W.alloc (.cells old t)) = .ok () (W.alloc (.cells cells.toArray t)) := by
 subst hH
 have := run_storeCells_from (P := P) W.heap.size t cells 0 old (W.alloc (.cells old t)) (at_alloc rfl) (by omega) h1
 simp only [List.take_zero, List.nil_append] at this
 rw [this, alloc_setRow]
theorem owns_below {w w' : World} {base : Nat} {e : TypeId} {size : Nat} {v : Value} {n : Nat} {xs : List Value} (h : w.ownsRow base e size v n xs) (hb : Below w.heap.size w w') : w'.ownsRow base e size v n xs := owns_keep h fun k hk => hb.block k (owns_in h k hk).2
end Go.Proofs.YtglmonlofejcgaaDoor.loan
