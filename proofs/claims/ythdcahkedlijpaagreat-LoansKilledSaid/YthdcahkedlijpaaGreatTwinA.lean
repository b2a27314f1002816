/- append of a list that can be read onto a row of the call's own. (No program in sight.) A region that draws its order, what it reads early lying in blocks that it does not write. (No program in sight.) -/
import Derived.Test.YthdcahkedlijpaaGreatFuncIs
import Derived.Test.YthdcahkedlijpaaGreatReg
import Derived.Test.YthdcahkedlijpaaGreatFn0
import Derived.Deep.MidRow
import Derived.Laws.AppendOwnNone
import Derived.Maps.AppendAt
import Derived.Deep.AppendLies
namespace Go.Proofs.YthdcahkedlijpaaGreat.Am
open Go.RowKit
set_option linter.unusedVariables false
theorem ListAt.flat_len {w : World} {v : Value} {sz : Nat} {els : List (List Value)} (h : ListAt w v sz els) : els.flatten.length = els.length * sz := by
  have key : ∀ l : List (List Value), (∀ x ∈ l, x.length = sz) → l.flatten.length = l.length * sz := fun l => by
    induction l with
    | nil => intro _; simp
    | cons x l ih =>
      intro h
      have h1 := ih fun y hy => h y (List.mem_cons_of_mem _ hy)
      have h2 := h x (List.mem_cons_self ..)
      rw [List.flatten_cons, List.length_append, h1, h2, List.length_cons, Nat.succ_mul, Nat.add_comm]
  exact key els fun x hx => by
    obtain ⟨i, hi⟩ := List.getElem?_of_mem hx
    exact h.len i x hi
def blkOf (v : Value) : List Nat := match v.ownBlock with | some k => [k] | none => []
theorem owns_keep {w w' : World} {base : Nat} {e : TypeId} {size : Nat} {v : Value} {n : Nat} {xs : List Value} (h : w.ownsRow base e size v n xs) (hk : ∀ k, k ∈ blkOf v → w'.heap[k]? = w.heap[k]?) : w'.ownsRow base e size v n xs := by
  obtain ⟨h1, h2⟩ := h
  refine ⟨h1, ?_⟩
  rcases h2 with h2 | ⟨g, cap, cur, rfl, hb, hg, r⟩
  · exact .inl h2
  · exact .inr ⟨g, cap, cur, rfl, hb, (hk g (by simp [blkOf, Value.ownBlock])).trans hg, r⟩
theorem owns_base {w : World} {base base' : Nat} {e : TypeId} {size : Nat} {v : Value} {n : Nat} {xs : List Value} (h : w.ownsRow base e size v n xs) (hb : base' ≤ base) : w.ownsRow base' e size v n xs := by
  obtain ⟨h1, h2⟩ := h
  refine ⟨h1, ?_⟩
  rcases h2 with h2 | ⟨g, cap, cur, rfl, hg, r⟩
  · exact .inl h2
  · exact .inr ⟨g, cap, cur, rfl, by omega, r⟩
theorem owns_in {w : World} {base : Nat} {e : TypeId} {size : Nat} {v : Value} {n : Nat} {xs : List Value} (h : w.ownsRow base e size v n xs) : ∀ k, k ∈ blkOf v → base ≤ k ∧ k < w.heap.size := fun k hk => by
  refine h.lt k ?_
  unfold blkOf at hk
  cases ho : v.ownBlock with
  | none => rw [ho] at hk; cases hk
  | some j => rw [ho] at hk; simp only [List.mem_singleton] at hk; rw [hk]
theorem flat_get {sz : Nat} : ∀ {l : List (List Value)} {i f : Nat} {el : List Value} {u : Value}, (∀ x ∈ l, x.length = sz) → l[i]? = some el → el[f]? = some u → l.flatten[i * sz + f]? = some u
  | [], i, f, el, u, _, h, _ => by simp at h
  | x :: l, 0, f, el, u, hl, h, k => by
    simp only [List.getElem?_cons_zero, Option.some.injEq] at h
    subst h
    rw [List.flatten_cons, Nat.zero_mul, Nat.zero_add, List.getElem?_append_left (List.getElem?_eq_some_iff.1 k).1]
    exact k
  | x :: l, i + 1, f, el, u, hl, h, k => by
    have hx := hl x (List.mem_cons_self ..)
    rw [List.flatten_cons, List.getElem?_append_right (by rw [Nat.succ_mul]; omega), show (i + 1) * sz + f - x.length = i * sz + f by rw [Nat.succ_mul]; omega]
    exact flat_get (fun y hy => hl y (List.mem_cons_of_mem _ hy)) (by simpa using h) k
theorem flat_len {sz : Nat} {l : List (List Value)} (hl : ∀ x ∈ l, x.length = sz) : l.flatten.length = l.length * sz := by
  induction l with
  | nil => simp
  | cons x l ih => rw [List.flatten_cons, List.length_append, ih fun y hy => hl y (List.mem_cons_of_mem _ hy), hl x (List.mem_cons_self ..), List.length_cons, Nat.succ_mul]; omega
theorem ListAt.of_own {w : World} {base : Nat} {e : TypeId} {sz : Nat} {v : Value} {els : List (List Value)} (h : w.ownsRow base e sz v els.length els.flatten) (hl : ∀ x ∈ els, x.length = sz) : ListAt w v sz els := by
  obtain ⟨h1, h2⟩ := h
  rcases h2 with ⟨rfl, h0⟩ | ⟨g, cap, cur, rfl, hb, hg, hn, hm, hs, ht⟩
  · have : els = [] := List.eq_nil_of_length_eq_zero h0
    subst this
    exact ⟨⟨none, 0, rfl⟩, by simp, fun i el h => by simp at h, fun i el h => by simp at h, fun h => absurd rfl h⟩
  · refine ⟨⟨_, _, rfl⟩, by unfold maxLen at hm; omega, fun i el hi => ⟨g, 0, cap, rfl, fun f u hf => ?_⟩, fun i el hi => hl el (List.mem_of_getElem? hi), fun _ A n c e => ?_⟩
    · have hfl := flat_get hl hi hf
      rw [← ht, List.getElem?_take] at hfl
      rw [Nat.zero_add, cell_of_row w g _ cur e (0, 0) hg]
      split at hfl
      · simpa using hfl
      · cases hfl
    · cases e
      exact ⟨hn, hm⟩
theorem at_alloc {w : World} {o : Obj} {H : Nat} (hH : w.heap.size = H) : (w.alloc o).heap[H]? = some o := hH ▸ heap_alloc_new w o
theorem at_more {w : World} {o x : Obj} {k : Nat} (h : w.heap[k]? = some x) : (w.alloc o).heap[k]? = some x := by
  rw [heap_alloc_old w o (Array.getElem?_eq_some_iff.1 h).1]
  exact h
theorem cell_more {w : World} {o : Obj} {a : Addr} {v : Value} (h : w.cell? a = some v) : (w.alloc o).cell? a = some v := by
  rw [← h]
  exact World.cell?_of_block (heap_alloc_old w o (World.block_lt_of_cell? w a h))
def Kept (r : Option Nat) (w w' : World) : Prop := ∀ k x, some k ≠ r → w.heap[k]? = some x → w'.heap[k]? = some x
theorem Kept.owns {r : Option Nat} {w w' : World} (hk : Kept r w w') {base : Nat} {e : TypeId} {size : Nat} {v : Value} {n : Nat} {xs : List Value} (h : w.ownsRow base e size v n xs) (hr : ∀ k, v.ownBlock = some k → some k ≠ r) : w'.ownsRow base e size v n xs := by
  obtain ⟨h1, h2⟩ := h
  refine ⟨h1, ?_⟩
  rcases h2 with h2 | ⟨g, cap, cur, rfl, hb, hg, q⟩
  · exact .inl h2
  · exact .inr ⟨g, cap, cur, rfl, hb, hk g _ (hr g rfl) hg, q⟩
theorem Kept.cell {r : Option Nat} {w w' : World} (hk : Kept r w w') {p : Addr} {v : Value} (h : w.cell? p = some v) (hr : some p.block ≠ r) : w'.cell? p = some v := by
  have hb := Array.getElem?_eq_getElem (World.block_lt_of_cell? w p h)
  rw [← h]
  exact World.cell?_of_block ((hk _ _ hr hb).trans hb.symm)
theorem frozen_none {w : World} {b : Nat} {C : Array Value} {T : TypeId} (hb : w.heap[b]? = some (.cells C T (0, 0))) (o : Nat) : w.frozen? ⟨b, o, none⟩ = false := by
  simp [World.frozen?, hb]
section
variable {P : Program} {ops : Array Oper} {Q : Exit → Act → World → Prop} {B i : Nat} {o : Oper} {a : Act} {w : World} {R : Act → World → Prop}
end
end Go.Proofs.YthdcahkedlijpaaGreat.Am
namespace Go.Proofs.YthdcahkedlijpaaGreat.Am
open Go.RowKit Go.Proofs.YthdcahkedlijpaaGreat
set_option linter.unusedVariables false
set_option linter.unusedSectionVars false
def Held (S : List Nat) (w W : World) : Prop := ∀ k ∈ S, ∀ x, w.heap[k]? = some x → W.heap[k]? = some x
theorem Held.refl (S : List Nat) (w : World) : Held S w w := fun _ _ _ h => h
theorem Held.trans {S : List Nat} {a b c : World} (h : Held S a b) (k : Held S b c) : Held S a c := fun i hi x hx => k i hi x (h i hi x hx)
theorem Kept.held {r : Option Nat} {w w' : World} (h : Kept r w w') {S : List Nat} (hr : ∀ k ∈ S, some k ≠ r) : Held S w w' := fun k hk x hx => h k x (hr k hk) hx
theorem Held.cell {S : List Nat} {w W : World} (h : Held S w W) {b o : Nat} (hb : b ∈ S) {v : Value} (hv : w.cell? ⟨b, o, none⟩ = some v) : W.cell? ⟨b, o, none⟩ = some v := by
  have hg := Array.getElem?_eq_getElem (World.block_lt_of_cell? w _ hv)
  rw [← hv]
  exact World.cell?_of_block ((h b hb _ hg).trans hg.symm)
section
variable {P : Program} {ops : Array Oper} {Q : Exit → Act → World → Prop} {S : List Nat}
abbrev AnyH (P : Program) (ops : Array Oper) (Q : Exit → Act → World → Prop) (S : List Nat) : Nat → Array Bool → Act → World → Prop := wpAnyE P .any ops Q (Held S)
theorem AnyH.take {i fuel : Nat} {o : Oper} {listed : Array Bool} {a : Act} {w : World} {v : Value} (hs : Region.noSelect ops = true) (ho : ops.toList[i]? = some o) (hf : Region.free .any ops listed i = true) (hr : (Region.ready .any ops listed).contains i = true)
    (hQ : ∀ (d : Tmp) (v : Value) c a w, Q (.panic c) (a.put (some d) v) w → Q (.panic c) a w) (hw : Region.wanted o (yielded ops a.tmps) = true) (hrun : ∀ W, Held S w W → (execOp a.eval o).run P W = .ok (.value v) W)
    (h : AnyH P ops Q S fuel (listed.setIfInBounds i true) (a.put o.dst v) w) : AnyH P ops Q S (fuel + 1) listed a w :=
  wpAnyE_first (fun _ => Held.refl _ _) (fun _ _ _ => Held.trans) (op_of ho) (Region.noSelect_spec hs) (fun c a w h => match o.dst, h with | none, h => h | some d, h => hQ d v c a w h) fuel listed a w (Region.free_spec (op_of ho) hf) (by simpa using hr) (.inl ⟨hw, hrun⟩) h
theorem AnyH.all {rs : List Nat} {fuel : Nat} {listed : Array Bool} {a : Act} {w : World} (hr : Region.ready .any ops listed = rs) (hne : rs.isEmpty = false)
    (h : ∀ i ∈ rs, wpOp P ops Q i (fun a' w' => Held S w w' ∧ AnyH P ops Q S fuel (listed.setIfInBounds i true) a' w') a w) : AnyH P ops Q S (fuel + 1) listed a w :=
  ⟨fun h0 => by rw [hr] at h0; subst h0; simp at hne, by rw [hr]; exact h⟩
theorem AnyH.done {listed : Array Bool} {a : Act} {w : World} (hr : Region.ready .any ops listed = []) (h : Q .normal a w) : AnyH P ops Q S 0 listed a w := ⟨hr, h⟩
variable {i : Nat} {o : Oper} {a : Act} {w : World} {R : Act → World → Prop}
end
def Box (w : World) (H : Nat) (t : TypeId) (a b c d : Value) : Prop := w.heap[H]? = some (.cells #[a, b, c, d] t (0, 0))
theorem Box.cells {w : World} {H : Nat} {t : TypeId} {a b c d : Value} (h : Box w H t a b c d) : w.cell? ⟨H, 0, none⟩ = some a ∧ w.cell? ⟨H, 1, none⟩ = some b ∧ w.cell? ⟨H, 2, none⟩ = some c ∧ w.cell? ⟨H, 3, none⟩ = some d := by
  refine ⟨?_, ?_, ?_, ?_⟩ <;> (rw [cell_of_row w H _ _ t (0, 0) h]; rfl)
theorem Box.lt {w : World} {H : Nat} {t : TypeId} {a b c d : Value} (h : Box w H t a b c d) : H < w.heap.size := (Array.getElem?_eq_some_iff.1 h).1
theorem Box.below {w w' : World} {H : Nat} {t : TypeId} {a b c d : Value} (h : Box w H t a b c d) (hb : Below w.heap.size w w') : Box w' H t a b c d := (hb.block H h.lt).trans h
theorem Box.mk {w : World} {t : TypeId} {a b c d : Value} {H : Nat} (hH : w.heap.size = H) : Box (w.alloc (.cells #[a, b, c, d] t)) H t a b c d := at_alloc hH
theorem Box.more {w : World} {o : Obj} {H : Nat} {t : TypeId} {a b c d : Value} (h : Box w H t a b c d) : Box (w.alloc o) H t a b c d := at_more h
end Go.Proofs.YthdcahkedlijpaaGreat.Am
