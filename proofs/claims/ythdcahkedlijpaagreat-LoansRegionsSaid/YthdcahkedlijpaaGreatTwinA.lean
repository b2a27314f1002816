/- append of a list that can be read onto a row of the call's own. (No program in sight.) A region that draws its order, what it reads early lying in blocks that it does not write. (No program in sight.) -/
import Derived.Test.YthdcahkedlijpaaGreatFuncIs
import Derived.Test.YthdcahkedlijpaaGreatReg
import Derived.Test.YthdcahkedlijpaaGreatFn0
import Derived.Deep.MidRow
import Derived.Laws.AppendOwnNone
import Derived.Maps.AppendAt
import Derived.Deep.AppendLies
namespace Go.Proofs.YthdcahkedlijpaaGreat.Am
open Go.RowKit
set_option linter.unusedVariables false
theorem ListAt.flat_len {w : World} {v : Value} {sz : Nat} {els : List (List Value)} (h : ListAt w v sz els) : els.flatten.length = els.length * sz := by
  have key : ∀ l : List (List Value), (∀ x ∈ l, x.length = sz) → l.flatten.length = l.length * sz := fun l => by
    induction l with
    | nil => intro _; simp
    | cons x l ih =>
      intro h
      have h1 := ih fun y hy => h y (List.mem_cons_of_mem _ hy)
      have h2 := h x (List.mem_cons_self ..)
      rw [List.flatten_cons, List.length_append, h1, h2, List.length_cons, Nat.succ_mul, Nat.add_comm]
  exact key els fun x hx => by
    obtain ⟨i, hi⟩ := List.getElem?_of_mem hx
    exact h.len i x hi
theorem flat_at {sz : Nat} : ∀ {l : List (List Value)} {j : Nat} {u : Value}, (∀ x ∈ l, x.length = sz) → l.flatten[j]? = some u → ∃ i f el, l[i]? = some el ∧ el[f]? = some u ∧ j = i * sz + f
  | [], j, u, _, h => by simp at h
  | x :: l, j, u, hl, h => by
    have hx := hl x (List.mem_cons_self ..)
    rw [List.flatten_cons] at h
    by_cases hj : j < x.length
    · rw [List.getElem?_append_left hj] at h
      exact ⟨0, j, x, rfl, h, by simp⟩
    · rw [List.getElem?_append_right (by omega)] at h
      obtain ⟨i, f, el, h1, h2, h3⟩ := flat_at (fun y hy => hl y (List.mem_cons_of_mem _ hy)) h
      exact ⟨i + 1, f, el, by simpa using h1, h2, by rw [Nat.succ_mul]; omega⟩
theorem ListAt.lens {w : World} {v : Value} {sz : Nat} {els : List (List Value)} (h : ListAt w v sz els) : ∀ x ∈ els, x.length = sz := fun x hx => by
  obtain ⟨i, hi⟩ := List.getElem?_of_mem hx
  exact h.len i x hi
theorem run_append_list {P : Program} {w : World} (base : Nat) (t ty e : TypeId) (z : Value) (size bytes : Nat) (ht : P.underlying t = some (.slice e)) (hrow : (P.info? e).map (fun i => (i.zero, i.size, i.bytes)) = some (some z, size, bytes)) (hzs : z.cells.size = size) (hsz : 0 < size)
    (v : Value) (n : Nat) (xs : List Value) (hown : w.ownsRow base e size v n xs) {sv : Value} {els : List (List Value)} (hs : ListAt w sv size els) (h1 : ∀ el ∈ els, ∀ u ∈ el, u.oneCell' = true)
    (h63 : n + els.length ≤ 1000000) (hby : bytes ≤ 1000000) (hbase : base ≤ w.heap.size) :
    ∃ v' w', (Builtin.append_ #[t, t] ty #[v, sv]).run P w = .ok v' w' ∧ w'.ownsRow base e size v' (n + els.length) (xs ++ els.flatten) ∧ w.grownBy w' v.ownBlock ∧ (v' = .slice none 0 0 → v = .slice none 0 0) ∧ (v'.ownBlock = v.ownBlock ∨ v'.ownBlock = some w.heap.size) := by
  obtain ⟨i, hi, hz0, hz1, hz2⟩ := info_parts hrow
  obtain ⟨A, c, e1⟩ := hs.sl
  have hmul : (n + els.length) * bytes ≤ 1000000 * 1000000 := Nat.mul_le_mul h63 hby
  have some_ : ∀ a : Addr, (∀ j u, els.flatten[j]? = some u → w.cell? (a.add j) = some u) → sv = .slice (some a) els.length c → ∃ v' w', (Builtin.append_ #[t, t] ty #[v, sv]).run P w = .ok v' w' ∧ w'.ownsRow base e size v' (n + els.length) (xs ++ els.flatten) ∧ w.grownBy w' v.ownBlock ∧ (v' = .slice none 0 0 → v = .slice none 0 0) ∧ (v'.ownBlock = v.ownBlock ∨ v'.ownBlock = some w.heap.size) := fun a hc ea => by
    obtain ⟨v', w', hrun, r1, r2, r3, r4⟩ := run_append_own_at (P := P) (w := w) base t ty e i z size bytes ht hi hz0 hz1 hz2 hzs hsz v n xs hown a els.length c els.flatten hs.flat_len hc (fun u hu => by
      obtain ⟨el, h2, h3⟩ := List.mem_flatten.1 hu
      exact h1 el h2 u h3) (by unfold maxLen; omega) (by omega) hbase
    exact ⟨v', w', by rw [ea]; exact hrun, r1, r2, fun h => (r3.1 h).1, r4⟩
  cases hels : els with
  | nil =>
    cases A with
    | some a => rw [← hels]; exact some_ a (fun j u hu => by rw [hels] at hu; simp at hu) e1
    | none =>
      have e1 : sv = .slice none 0 c := by rw [e1, hels]; rfl
      have hrun : (Builtin.append_ #[t, t] ty #[v, .slice none 0 c]).run P w = .ok v w := by
        rcases hown.2 with ⟨rfl, rfl⟩ | ⟨g, cap, cur, rfl, _, _, hnc, _⟩
        · simp [Builtin.append_, run_underlying ht, sizeOf, typeInfo, hi, Builtin.lenOf, Builtin.firstCells]
        · simp [Builtin.append_, run_underlying ht, sizeOf, typeInfo, hi, Builtin.lenOf, Builtin.firstCells, hnc, storeCells]
      exact ⟨v, w, by rw [e1]; exact hrun, by simpa using hown, ⟨rfl, rfl, rfl, Nat.le_refl _, fun _ _ _ => rfl⟩, id, .inl rfl⟩
  | cons x r =>
    obtain ⟨b, off, c', e2, _⟩ := hs.at_ 0 x (by rw [hels]; rfl)
    rw [← hels]
    have e3 : sv = .slice (some ⟨b, off, none⟩) els.length c := by
      rw [e1] at e2 ⊢
      cases e2
      rfl
    refine some_ ⟨b, off, none⟩ (fun j u hu => ?_) e3
    obtain ⟨i', f, el, h2, h3, rfl⟩ := flat_at hs.lens hu
    obtain ⟨b', off', c'', e4, hc⟩ := hs.at_ i' el h2
    have : b' = b ∧ off' = off := by
      rw [e4] at e3
      cases e3
      exact ⟨rfl, rfl⟩
    obtain ⟨rfl, rfl⟩ := this
    have := hc f u h3
    rw [addr_add, ← Nat.add_assoc]
    exact this
theorem wp_append_list {P : Program} {w : World} {o : Oper} {a : Act} {K : Act → World → Prop} {Q : Exit → Act → World → Prop} (s x : Operand) (t : TypeId)
    (ho : o.op = .call { callee := .builtin .append, args := #[s, x], argTypes := #[t, t] }) (base : Nat) (e : TypeId) (z : Value) (size bytes : Nat) (ht : P.underlying t = some (.slice e)) (hrow : (P.info? e).map (fun i => (i.zero, i.size, i.bytes)) = some (some z, size, bytes)) (hzs : z.cells.size = size) (hsz : 0 < size)
    (v : Value) (n : Nat) (xs : List Value) (hs : a.eval s = v) (hown : w.ownsRow base e size v n xs) (sv : Value) (els : List (List Value)) (hx : a.eval x = sv) (hl : ListAt w sv size els) (h1 : ∀ el ∈ els, ∀ u ∈ el, u.oneCell' = true)
    (h63 : n + els.length ≤ 1000000) (hby : bytes ≤ 1000000) (hbase : base ≤ w.heap.size) (H : Nat) (hH : w.heap.size = H)
    (hf : v.ownBlock ≠ none ∨ 0 < els.length) (h : ∀ g cap w', w'.ownsRow base e size (.slice (some ⟨g, 0, none⟩) (n + els.length) cap) (n + els.length) (xs ++ els.flatten) → w.grownBy w' v.ownBlock → (v.ownBlock = some g ∨ g = H) → g < w'.heap.size → K (a.put o.dst (.slice (some ⟨g, 0, none⟩) (n + els.length) cap)) w') : o.wp P a w K Q := by
  subst hH
  obtain ⟨v', w', hr, h2, h3, _, h5⟩ := run_append_list (P := P) (w := w) base t o.type e z size bytes ht hrow hzs hsz v n xs hown hl h1 h63 hby hbase
  unfold Oper.wp execOp
  simp only [ho, resolve, invoke, builtin, Sem.run_bind, Sem.run_pure, Result.andThen_ok, List.map_toArray, List.map_cons, List.map_nil, hs, hx, hr]
  obtain ⟨g, cap, rfl, hlt⟩ : ∃ g cap, v' = .slice (some ⟨g, 0, none⟩) (n + els.length) cap ∧ g < w'.heap.size := by
    rcases h2.2 with ⟨rfl, h0⟩ | ⟨g, cap, cur, hv, _, hg, _⟩
    · exfalso
      rcases hf with hf | hf
      · rcases h5 with h5 | h5
        · exact hf h5.symm
        · cases h5
      · omega
    · exact ⟨g, cap, hv, (Array.getElem?_eq_some_iff.1 hg).1⟩
  refine h g cap w' h2 h3 ?_ hlt
  rcases h5 with h5 | h5
  · exact .inl h5.symm
  · exact .inr (Option.some.inj h5)
theorem wpList_append_list {P : Program} {w : World} {ops : Array Oper} {rest : List Oper} {o : Oper} {a : Act} {Q : Exit → Act → World → Prop} (hgd : o.guard = none) (s x : Operand) (t : TypeId)
    (ho : o.op = .call { callee := .builtin .append, args := #[s, x], argTypes := #[t, t] }) (base : Nat) (e : TypeId) (z : Value) (size bytes : Nat) (ht : P.underlying t = some (.slice e)) (hrow : (P.info? e).map (fun i => (i.zero, i.size, i.bytes)) = some (some z, size, bytes)) (hzs : z.cells.size = size) (hsz : 0 < size)
    (v : Value) (n : Nat) (xs : List Value) (hs : a.eval s = v) (hown : w.ownsRow base e size v n xs) (sv : Value) (els : List (List Value)) (hx : a.eval x = sv) (hl : ListAt w sv size els) (h1 : ∀ el ∈ els, ∀ u ∈ el, u.oneCell' = true)
    (h63 : n + els.length ≤ 1000000) (hby : bytes ≤ 1000000) (hbase : base ≤ w.heap.size) (H : Nat) (hH : w.heap.size = H)
    (hf : v.ownBlock ≠ none ∨ 0 < els.length) (h : ∀ g cap w', w'.ownsRow base e size (.slice (some ⟨g, 0, none⟩) (n + els.length) cap) (n + els.length) (xs ++ els.flatten) → w.grownBy w' v.ownBlock → (v.ownBlock = some g ∨ g = H) → g < w'.heap.size → wpList P ops Q rest (a.put o.dst (.slice (some ⟨g, 0, none⟩) (n + els.length) cap)) w') : wpList P ops Q (o :: rest) a w :=
  wpList_plain hgd fun _ hK => wp_append_list s x t ho base e z size bytes ht hrow hzs hsz v n xs hs hown sv els hx hl h1 h63 hby hbase H hH hf fun g cap w' h2 h3 h4 h5 => hK _ _ (h g cap w' h2 h3 h4 h5)
theorem step_append_list {P : Program} {w : World} {ops : Array Oper} {o : Oper} {a : Act} {K : Act → World → Prop} {Q : Exit → Act → World → Prop} {E : Prop} (hgd : o.guard = none) (s x : Operand) (t : TypeId)
    (ho : o.op = .call { callee := .builtin .append, args := #[s, x], argTypes := #[t, t] }) (base : Nat) (e : TypeId) (z : Value) (size bytes : Nat) (ht : P.underlying t = some (.slice e)) (hrow : (P.info? e).map (fun i => (i.zero, i.size, i.bytes)) = some (some z, size, bytes)) (hzs : z.cells.size = size) (hsz : 0 < size)
    (v : Value) (n : Nat) (xs : List Value) (hs : a.eval s = v) (hown : w.ownsRow base e size v n xs) (sv : Value) (els : List (List Value)) (hx : a.eval x = sv) (hl : ListAt w sv size els) (h1 : ∀ el ∈ els, ∀ u ∈ el, u.oneCell' = true)
    (h63 : n + els.length ≤ 1000000) (hby : bytes ≤ 1000000) (hbase : base ≤ w.heap.size) (H : Nat) (hH : w.heap.size = H)
    (hf : v.ownBlock ≠ none ∨ 0 < els.length) (h : ∀ g cap w', w'.ownsRow base e size (.slice (some ⟨g, 0, none⟩) (n + els.length) cap) (n + els.length) (xs ++ els.flatten) → w.grownBy w' v.ownBlock → (v.ownBlock = some g ∨ g = H) → g < w'.heap.size → K (a.put o.dst (.slice (some ⟨g, 0, none⟩) (n + els.length) cap)) w') :
    if Region.wanted o (yielded ops a.tmps) = true then Oper.wp P o a w K Q else E := by
  have hw : Region.wanted o (yielded ops a.tmps) = true := by simp [Region.wanted, hgd]
  rw [if_pos hw]
  exact wp_append_list s x t ho base e z size bytes ht hrow hzs hsz v n xs hs hown sv els hx hl h1 h63 hby hbase H hH hf h
def blkOf (v : Value) : List Nat := match v.ownBlock with | some k => [k] | none => []
theorem owns_keep {w w' : World} {base : Nat} {e : TypeId} {size : Nat} {v : Value} {n : Nat} {xs : List Value} (h : w.ownsRow base e size v n xs) (hk : ∀ k, k ∈ blkOf v → w'.heap[k]? = w.heap[k]?) : w'.ownsRow base e size v n xs := by
  obtain ⟨h1, h2⟩ := h
  refine ⟨h1, ?_⟩
  rcases h2 with h2 | ⟨g, cap, cur, rfl, hb, hg, r⟩
  · exact .inl h2
  · exact .inr ⟨g, cap, cur, rfl, hb, (hk g (by simp [blkOf, Value.ownBlock])).trans hg, r⟩
theorem owns_base {w : World} {base base' : Nat} {e : TypeId} {size : Nat} {v : Value} {n : Nat} {xs : List Value} (h : w.ownsRow base e size v n xs) (hb : base' ≤ base) : w.ownsRow base' e size v n xs := by
  obtain ⟨h1, h2⟩ := h
  refine ⟨h1, ?_⟩
  rcases h2 with h2 | ⟨g, cap, cur, rfl, hg, r⟩
  · exact .inl h2
  · exact .inr ⟨g, cap, cur, rfl, by omega, r⟩
theorem owns_in {w : World} {base : Nat} {e : TypeId} {size : Nat} {v : Value} {n : Nat} {xs : List Value} (h : w.ownsRow base e size v n xs) : ∀ k, k ∈ blkOf v → base ≤ k ∧ k < w.heap.size := fun k hk => by
  refine h.lt k ?_
  unfold blkOf at hk
  cases ho : v.ownBlock with
  | none => rw [ho] at hk; cases hk
  | some j => rw [ho] at hk; simp only [List.mem_singleton] at hk; rw [hk]
theorem flat_get {sz : Nat} : ∀ {l : List (List Value)} {i f : Nat} {el : List Value} {u : Value}, (∀ x ∈ l, x.length = sz) → l[i]? = some el → el[f]? = some u → l.flatten[i * sz + f]? = some u
  | [], i, f, el, u, _, h, _ => by simp at h
  | x :: l, 0, f, el, u, hl, h, k => by
    simp only [List.getElem?_cons_zero, Option.some.injEq] at h
    subst h
    rw [List.flatten_cons, Nat.zero_mul, Nat.zero_add, List.getElem?_append_left (List.getElem?_eq_some_iff.1 k).1]
    exact k
  | x :: l, i + 1, f, el, u, hl, h, k => by
    have hx := hl x (List.mem_cons_self ..)
    rw [List.flatten_cons, List.getElem?_append_right (by rw [Nat.succ_mul]; omega), show (i + 1) * sz + f - x.length = i * sz + f by rw [Nat.succ_mul]; omega]
    exact flat_get (fun y hy => hl y (List.mem_cons_of_mem _ hy)) (by simpa using h) k
theorem flat_len {sz : Nat} {l : List (List Value)} (hl : ∀ x ∈ l, x.length = sz) : l.flatten.length = l.length * sz := by
  induction l with
  | nil => simp
  | cons x l ih => rw [List.flatten_cons, List.length_append, ih fun y hy => hl y (List.mem_cons_of_mem _ hy), hl x (List.mem_cons_self ..), List.length_cons, Nat.succ_mul]; omega
theorem ListAt.of_own {w : World} {base : Nat} {e : TypeId} {sz : Nat} {v : Value} {els : List (List Value)} (h : w.ownsRow base e sz v els.length els.flatten) (hl : ∀ x ∈ els, x.length = sz) : ListAt w v sz els := by
  obtain ⟨h1, h2⟩ := h
  rcases h2 with ⟨rfl, h0⟩ | ⟨g, cap, cur, rfl, hb, hg, hn, hm, hs, ht⟩
  · have : els = [] := List.eq_nil_of_length_eq_zero h0
    subst this
    exact ⟨⟨none, 0, rfl⟩, by simp, fun i el h => by simp at h, fun i el h => by simp at h, fun h => absurd rfl h⟩
  · refine ⟨⟨_, _, rfl⟩, by unfold maxLen at hm; omega, fun i el hi => ⟨g, 0, cap, rfl, fun f u hf => ?_⟩, fun i el hi => hl el (List.mem_of_getElem? hi), fun _ A n c e => ?_⟩
    · have hfl := flat_get hl hi hf
      rw [← ht, List.getElem?_take] at hfl
      rw [Nat.zero_add, cell_of_row w g _ cur e (0, 0) hg]
      split at hfl
      · simpa using hfl
      · cases hfl
    · cases e
      exact ⟨hn, hm⟩
theorem owns_zero {w : World} {base : Nat} {e : TypeId} {size H : Nat} (hg : w.heap[H]? = some (.cells #[] e (0, 0))) (hb : base ≤ H) : w.ownsRow base e size (.slice (some ⟨H, 0, none⟩) 0 0) 0 [] :=
  ⟨by simp, .inr ⟨H, 0, #[], rfl, hb, hg, Nat.le_refl _, Nat.zero_le _, by simp, by simp⟩⟩
theorem at_alloc {w : World} {o : Obj} {H : Nat} (hH : w.heap.size = H) : (w.alloc o).heap[H]? = some o := hH ▸ heap_alloc_new w o
theorem at_more {w : World} {o x : Obj} {k : Nat} (h : w.heap[k]? = some x) : (w.alloc o).heap[k]? = some x := by
  rw [heap_alloc_old w o (Array.getElem?_eq_some_iff.1 h).1]
  exact h
theorem cell_more {w : World} {o : Obj} {a : Addr} {v : Value} (h : w.cell? a = some v) : (w.alloc o).cell? a = some v := by
  rw [← h]
  exact World.cell?_of_block (heap_alloc_old w o (World.block_lt_of_cell? w a h))
theorem at_drew {w : World} {x : Obj} {k : Nat} (h : w.heap[k]? = some x) : w.drew.heap[k]? = some x := h
theorem at_grown {w w' : World} {row : Option Nat} {x : Obj} {k : Nat} (hg : w.grownBy w' row) (h : w.heap[k]? = some x) (hne : some k ≠ row) : w'.heap[k]? = some x := by
  rw [hg.block k (Array.getElem?_eq_some_iff.1 h).1 hne]
  exact h
theorem far_cells {W w1 : World} {row : Option Nat} {r : Nat} (hg : W.grownBy w1 row) (hr : row = some r) : (∀ b o, b < W.heap.size → b ≠ r → w1.cell? ⟨b, o, none⟩ = W.cell? ⟨b, o, none⟩) ∧ (∀ b o, b < W.heap.size → b ≠ r → w1.frozen? ⟨b, o, none⟩ = W.frozen? ⟨b, o, none⟩) :=
  ⟨fun b o h1 h2 => hg.cell_far _ h1 (by rw [hr]; simpa using h2), fun b o h1 h2 => hg.frozen_far _ h1 (by rw [hr]; simpa using h2)⟩
theorem blkOf_some {v : Value} {k : Nat} (h : v.ownBlock = some k) : blkOf v = [k] := by unfold blkOf; rw [h]
theorem mem_blkOf {v : Value} {k : Nat} : k ∈ blkOf v ↔ v.ownBlock = some k := by
  unfold blkOf
  cases v.ownBlock with
  | none => simp
  | some j => simp [eq_comm]
def Kept (r : Option Nat) (w w' : World) : Prop := ∀ k x, some k ≠ r → w.heap[k]? = some x → w'.heap[k]? = some x
theorem Kept.owns {r : Option Nat} {w w' : World} (hk : Kept r w w') {base : Nat} {e : TypeId} {size : Nat} {v : Value} {n : Nat} {xs : List Value} (h : w.ownsRow base e size v n xs) (hr : ∀ k, v.ownBlock = some k → some k ≠ r) : w'.ownsRow base e size v n xs := by
  obtain ⟨h1, h2⟩ := h
  refine ⟨h1, ?_⟩
  rcases h2 with h2 | ⟨g, cap, cur, rfl, hb, hg, q⟩
  · exact .inl h2
  · exact .inr ⟨g, cap, cur, rfl, hb, hk g _ (hr g rfl) hg, q⟩
theorem Kept.cell {r : Option Nat} {w w' : World} (hk : Kept r w w') {p : Addr} {v : Value} (h : w.cell? p = some v) (hr : some p.block ≠ r) : w'.cell? p = some v := by
  have hb := Array.getElem?_eq_getElem (World.block_lt_of_cell? w p h)
  rw [← h]
  exact World.cell?_of_block ((hk _ _ hr hb).trans hb.symm)
theorem frozen_none {w : World} {b : Nat} {C : Array Value} {T : TypeId} (hb : w.heap[b]? = some (.cells C T (0, 0))) (o : Nat) : w.frozen? ⟨b, o, none⟩ = false := by
  simp [World.frozen?, hb]
theorem there_block {w : World} {b : Nat} {C : Array Value} {T : TypeId} (hb : w.heap[b]? = some (.cells C T (0, 0))) {o n : Nat} (h : o + n ≤ C.size) : w.there b o n := fun j hj => by
  refine ⟨?_, frozen_none hb _⟩
  rw [cell_of_row w b _ C T (0, 0) hb]
  simp
  omega
section
variable {P : Program} {ops : Array Oper} {Q : Exit → Act → World → Prop} {B i : Nat} {o : Oper} {a : Act} {w : World} {R : Act → World → Prop}
theorem stepNew (ho : ops.toList[i]? = some o) (hw : Region.wanted o (yielded ops a.tmps) = true) (v : Nat → Value) (cs : Array Value) (t : TypeId) (hrun : (execOp a.eval o).run P w = .ok (.value (v w.heap.size)) (w.alloc (.cells cs t))) (hB : B ≤ w.heap.size)
    (h : ∀ H w', H = w.heap.size → w'.heap[H]? = some (.cells cs t (0, 0)) → Kept none w w' → Below B w w' → w'.heap.size = H + 1 → R (a.put o.dst (v H)) w') : wpOp P ops Q i (fun a' w' => Below B w w' ∧ R a' w') a w :=
  stepVal ho hw hrun ((Below.refl B w).alloc hB _) (h _ _ rfl (heap_alloc_new w _) (fun k x _ hk => at_more hk) ((Below.refl B w).alloc hB _) (by simp))
theorem stepApp (ho : ops.toList[i]? = some o) (hw : Region.wanted o (yielded ops a.tmps) = true)
    (s x : Operand) (base : Nat) (t e : TypeId) (z : Value) (size bytes : Nat) (hop : o.op = .call { callee := .builtin .append, args := #[s, x], argTypes := #[t, t] }) (ht : P.underlying t = some (.slice e)) (hrow : (P.info? e).map (fun i => (i.zero, i.size, i.bytes)) = some (some z, size, bytes)) (hzs : z.cells.size = size) (hsz : 0 < size)
    {v : Value} {n : Nat} {xs : List Value} (hs : a.eval s = v) (hown : w.ownsRow base e size v n xs) {sv : Value} {els : List (List Value)} (hx : a.eval x = sv) (hl : ListAt w sv size els) (h1 : ∀ el ∈ els, ∀ u ∈ el, u.oneCell' = true)
    (h63 : n + els.length ≤ 1000000) (hby : bytes ≤ 1000000) (hbase : base ≤ w.heap.size) (hB : B ≤ base) (hf : v.ownBlock ≠ none ∨ 0 < els.length)
    (h : ∀ g cap w', w'.ownsRow base e size (.slice (some ⟨g, 0, none⟩) (n + els.length) cap) (n + els.length) (xs ++ els.flatten) → Kept v.ownBlock w w' → Below B w w' → w.heap.size ≤ w'.heap.size → (v.ownBlock = some g ∨ g = w.heap.size) → g < w'.heap.size → R (a.put o.dst (.slice (some ⟨g, 0, none⟩) (n + els.length) cap)) w') : wpOp P ops Q i (fun a' w' => Below B w w' ∧ R a' w') a w := by
  obtain ⟨v', w', hrun, r1, r2, _, r5⟩ := run_append_list (P := P) (w := w) base t o.type e z size bytes ht hrow hzs hsz v n xs hown hl h1 h63 hby hbase
  obtain ⟨g, cap, rfl, hlt⟩ : ∃ g cap, v' = .slice (some ⟨g, 0, none⟩) (n + els.length) cap ∧ g < w'.heap.size := by
    rcases r1.2 with ⟨rfl, h0⟩ | ⟨g, cap, cur, hv, _, hg, _⟩
    · exfalso
      rcases hf with hf | hf
      · rcases r5 with h5 | h5
        · exact hf h5.symm
        · cases h5
      · omega
    · exact ⟨g, cap, hv, (Array.getElem?_eq_some_iff.1 hg).1⟩
  have hbel : Below B w w' := (Below.refl B w).grown r2 (by omega) (fun k hk => Nat.le_trans hB (hown.lt k hk).1)
  refine stepVal (v := .slice (some ⟨g, 0, none⟩) (n + els.length) cap) (w' := w') ho hw ?_ hbel (h g cap w' r1 (fun k x hk hx => at_grown r2 hx hk) hbel r2.size ?_ hlt)
  · simp [execOp, hop, resolve, invoke, builtin, hs, hx, hrun, Result.andThen]
  · rcases r5 with h5 | h5
    · exact .inl h5.symm
    · exact .inr (Option.some.inj h5)
theorem stepStore (ho : ops.toList[i]? = some o) (hw : Region.wanted o (yielded ops a.tmps) = true) (ty : TypeId) (x y : Operand) (hop : o.op = .store ty x y) (b off : Nat) (cells : Array Value) (hx : a.eval x = .pointer (some ⟨b, off, none⟩)) (hy : a.eval y = .agg cells)
    {C : Array Value} {T : TypeId} (hb : w.heap[b]? = some (.cells C T (0, 0))) (hfit : off + cells.size ≤ C.size) (hi : (P.info? ty).map (·.size) = some cells.size) (h1 : cells.all (·.oneCell') = true) (hB : B ≤ b)
    (h : ∀ w' D, w'.heap[b]? = some (.cells D T (0, 0)) → D.toList = C.toList.take off ++ (cells.toList ++ C.toList.drop (off + cells.size)) → Kept (some b) w w' → Below B w w' → w'.heap.size = w.heap.size → R (a.put o.dst Go.undef) w') : wpOp P ops Q i (fun a' w' => Below B w w' ∧ R a' w') a w := by
  letI : Base := (⟨w, [], []⟩ : Env).b
  obtain ⟨D, g1, g2, g3, g4, g5, g6, g7⟩ := setCells_at cells.toList off C w hb (by simpa using hfit)
  have hbel : Below B w (w.setCells b off cells.toList) := ⟨g4, g5, g6, by omega, fun k hk => g3 k (by omega)⟩
  refine stepSkip (w' := w.setCells b off cells.toList) ho hw ?_ hbel (h _ D g1 (by simpa using g2) (fun k x hk hx => (g3 k (fun e => hk (by rw [e]))).trans hx) hbel g7)
  unfold execOp
  simp only [hop, hx, hy, Instr.storeAt, Instr.sureAddr, Sem.run_bind, Sem.run_pure, Result.andThen_ok, run_storeVar_mid w b off ty cells (there_block hb hfit) hi h1]
  try rfl
end
theorem nodup_more {A : List Nat} {n x y : Nat} (h : A.Nodup) (hA : ∀ k ∈ A, k < n) (hx : n ≤ x) (hy : x < y) : (A ++ [x, y]).Nodup := by
  refine List.nodup_append.2 ⟨h, by simp; omega, fun a ha b hb => ?_⟩
  have := hA a ha
  simp only [List.mem_cons, List.not_mem_nil, or_false] at hb
  omega
theorem nodup_step {T g n g5 g6 g8 : Nat} {bs F : List Nat} (h : (T :: g :: (bs ++ F)).Nodup) (hlt : ∀ k ∈ T :: g :: (bs ++ F), k < n) (h5 : n ≤ g5) (h56 : g5 < g6) (h8 : bs = [g8] ∨ g6 < g8) : (T :: g :: ([g8] ++ (F ++ [g5, g6]))).Nodup := by
  rcases h8 with rfl | h8
  · exact nodup_more (A := T :: g :: ([g8] ++ F)) h hlt h5 h56
  · have hs : (T :: g :: F).Nodup := h.sublist (by simp)
    have hl : ∀ k ∈ T :: g :: F, k < n := fun k hk => hlt k (by simp only [List.mem_cons, List.mem_append] at hk ⊢; rcases hk with h | h | h <;> simp [h])
    have hm := nodup_more hs hl h5 h56
    have : (g8 :: (T :: g :: F ++ [g5, g6])).Nodup := List.nodup_cons.2 ⟨fun hm => by
      rcases List.mem_append.1 hm with h | h
      · have := hl _ h; omega
      · simp only [List.mem_cons, List.not_mem_nil, or_false] at h; omega, hm⟩
    have p : (T :: g :: ([g8] ++ (F ++ [g5, g6]))).Perm (g8 :: (T :: g :: F ++ [g5, g6])) := by
      have p1 : (T :: g :: ([g8] ++ (F ++ [g5, g6]))).Perm ([g8] ++ (T :: g :: (F ++ [g5, g6]))) := by
        have := List.perm_append_comm_assoc [T, g] [g8] (F ++ [g5, g6])
        simpa using this
      simpa using p1
    exact p.nodup_iff.2 this
end Go.Proofs.YthdcahkedlijpaaGreat.Am
namespace Go.Proofs.YthdcahkedlijpaaGreat.Am
open Go.RowKit Go.Proofs.YthdcahkedlijpaaGreat
set_option linter.unusedVariables false
set_option linter.unusedSectionVars false
def Held (S : List Nat) (w W : World) : Prop := ∀ k ∈ S, ∀ x, w.heap[k]? = some x → W.heap[k]? = some x
theorem Held.refl (S : List Nat) (w : World) : Held S w w := fun _ _ _ h => h
theorem Held.trans {S : List Nat} {a b c : World} (h : Held S a b) (k : Held S b c) : Held S a c := fun i hi x hx => k i hi x (h i hi x hx)
theorem Kept.held {r : Option Nat} {w w' : World} (h : Kept r w w') {S : List Nat} (hr : ∀ k ∈ S, some k ≠ r) : Held S w w' := fun k hk x hx => h k x (hr k hk) hx
theorem Held.cell {S : List Nat} {w W : World} (h : Held S w W) {b o : Nat} (hb : b ∈ S) {v : Value} (hv : w.cell? ⟨b, o, none⟩ = some v) : W.cell? ⟨b, o, none⟩ = some v := by
  have hg := Array.getElem?_eq_getElem (World.block_lt_of_cell? w _ hv)
  rw [← hv]
  exact World.cell?_of_block ((h b hb _ hg).trans hg.symm)
section
variable {P : Program} {ops : Array Oper} {Q : Exit → Act → World → Prop} {S : List Nat}
abbrev AnyH (P : Program) (ops : Array Oper) (Q : Exit → Act → World → Prop) (S : List Nat) : Nat → Array Bool → Act → World → Prop := wpAnyE P .any ops Q (Held S)
theorem region_held (S : List Nat) {id : Nat} {a : Act} {w : World} (hm : P.follows .mixedOrders = true) (h : AnyH P ops Q S ops.size (Array.replicate ops.size false) a w.drew) : (Code.region id ops true).wp P Q a w :=
  wp_region_any hm (wpAny_of_E _ _ _ _ h)
theorem AnyH.take {i fuel : Nat} {o : Oper} {listed : Array Bool} {a : Act} {w : World} {v : Value} (hs : Region.noSelect ops = true) (ho : ops.toList[i]? = some o) (hf : Region.free .any ops listed i = true) (hr : (Region.ready .any ops listed).contains i = true)
    (hQ : ∀ (d : Tmp) (v : Value) c a w, Q (.panic c) (a.put (some d) v) w → Q (.panic c) a w) (hw : Region.wanted o (yielded ops a.tmps) = true) (hrun : ∀ W, Held S w W → (execOp a.eval o).run P W = .ok (.value v) W)
    (h : AnyH P ops Q S fuel (listed.setIfInBounds i true) (a.put o.dst v) w) : AnyH P ops Q S (fuel + 1) listed a w :=
  wpAnyE_first (fun _ => Held.refl _ _) (fun _ _ _ => Held.trans) (op_of ho) (Region.noSelect_spec hs) (fun c a w h => match o.dst, h with | none, h => h | some d, h => hQ d v c a w h) fuel listed a w (Region.free_spec (op_of ho) hf) (by simpa using hr) (.inl ⟨hw, hrun⟩) h
theorem AnyH.all {rs : List Nat} {fuel : Nat} {listed : Array Bool} {a : Act} {w : World} (hr : Region.ready .any ops listed = rs) (hne : rs.isEmpty = false)
    (h : ∀ i ∈ rs, wpOp P ops Q i (fun a' w' => Held S w w' ∧ AnyH P ops Q S fuel (listed.setIfInBounds i true) a' w') a w) : AnyH P ops Q S (fuel + 1) listed a w :=
  ⟨fun h0 => by rw [hr] at h0; subst h0; simp at hne, by rw [hr]; exact h⟩
theorem AnyH.done {listed : Array Bool} {a : Act} {w : World} (hr : Region.ready .any ops listed = []) (h : Q .normal a w) : AnyH P ops Q S 0 listed a w := ⟨hr, h⟩
variable {i : Nat} {o : Oper} {a : Act} {w : World} {R : Act → World → Prop}
theorem hVal {w' : World} {v : Value} (ho : ops.toList[i]? = some o) (hw : Region.wanted o (yielded ops a.tmps) = true)
    (hrun : (execOp a.eval o).run P w = .ok (.value v) w') (he : Held S w w') (h : R (a.put o.dst v) w') : wpOp P ops Q i (fun a' w' => Held S w w' ∧ R a' w') a w :=
  wpOp_step (op_of ho) fun K' hK => by
    rw [hw]
    show Oper.wp P o a w K' Q
    unfold Oper.wp
    rw [hrun]
    simp only [Oper.upon]
    exact hK _ _ ⟨he, h⟩
theorem hSkip {w' : World} (ho : ops.toList[i]? = some o) (hw : Region.wanted o (yielded ops a.tmps) = true)
    (hrun : (execOp a.eval o).run P w = .ok .skip w') (he : Held S w w') (h : R (a.put o.dst Go.undef) w') : wpOp P ops Q i (fun a' w' => Held S w w' ∧ R a' w') a w :=
  wpOp_step (op_of ho) fun K' hK => by
    rw [hw]
    show Oper.wp P o a w K' Q
    unfold Oper.wp
    rw [hrun]
    simp only [Oper.upon]
    exact hK _ _ ⟨he, h⟩
theorem hNew (ho : ops.toList[i]? = some o) (hw : Region.wanted o (yielded ops a.tmps) = true) (v : Nat → Value) (cs : Array Value) (t : TypeId) (hrun : (execOp a.eval o).run P w = .ok (.value (v w.heap.size)) (w.alloc (.cells cs t)))
    (h : ∀ H w', H = w.heap.size → w'.heap[H]? = some (.cells cs t (0, 0)) → Kept none w w' → Below w.heap.size w w' → w'.heap.size = H + 1 → R (a.put o.dst (v H)) w') : wpOp P ops Q i (fun a' w' => Held S w w' ∧ R a' w') a w :=
  have hk : Kept none w (w.alloc (.cells cs t)) := fun k x _ hk => at_more hk
  hVal ho hw hrun (hk.held fun _ _ => by simp) (h _ _ rfl (heap_alloc_new w _) hk ((Below.refl _ w).alloc (Nat.le_refl _) _) (by simp))
theorem hApp (ho : ops.toList[i]? = some o) (hw : Region.wanted o (yielded ops a.tmps) = true)
    (s x : Operand) (base : Nat) (t e : TypeId) (z : Value) (size bytes : Nat) (hop : o.op = .call { callee := .builtin .append, args := #[s, x], argTypes := #[t, t] }) (ht : P.underlying t = some (.slice e)) (hrow : (P.info? e).map (fun i => (i.zero, i.size, i.bytes)) = some (some z, size, bytes)) (hzs : z.cells.size = size) (hsz : 0 < size)
    {v : Value} {n : Nat} {xs : List Value} (hs : a.eval s = v) (hown : w.ownsRow base e size v n xs) {sv : Value} {els : List (List Value)} (hx : a.eval x = sv) (hl : ListAt w sv size els) (h1 : ∀ el ∈ els, ∀ u ∈ el, u.oneCell' = true)
    (h63 : n + els.length ≤ 1000000) (hby : bytes ≤ 1000000) (hbase : base ≤ w.heap.size) (hf : v.ownBlock ≠ none ∨ 0 < els.length) (hS : ∀ k ∈ S, some k ≠ v.ownBlock)
    (h : ∀ g cap w', w'.ownsRow base e size (.slice (some ⟨g, 0, none⟩) (n + els.length) cap) (n + els.length) (xs ++ els.flatten) → Kept v.ownBlock w w' → Below base w w' → w.heap.size ≤ w'.heap.size → (v.ownBlock = some g ∨ g = w.heap.size) → g < w'.heap.size → R (a.put o.dst (.slice (some ⟨g, 0, none⟩) (n + els.length) cap)) w') : wpOp P ops Q i (fun a' w' => Held S w w' ∧ R a' w') a w := by
  obtain ⟨v', w', hrun, r1, r2, _, r5⟩ := run_append_list (P := P) (w := w) base t o.type e z size bytes ht hrow hzs hsz v n xs hown hl h1 h63 hby hbase
  obtain ⟨g, cap, rfl, hlt⟩ : ∃ g cap, v' = .slice (some ⟨g, 0, none⟩) (n + els.length) cap ∧ g < w'.heap.size := by
    rcases r1.2 with ⟨rfl, h0⟩ | ⟨g, cap, cur, hv, _, hg, _⟩
    · exfalso
      rcases hf with hf | hf
      · rcases r5 with h5 | h5
        · exact hf h5.symm
        · cases h5
      · omega
    · exact ⟨g, cap, hv, (Array.getElem?_eq_some_iff.1 hg).1⟩
  have hbel : Below base w w' := (Below.refl base w).grown r2 hbase (fun k hk => (hown.lt k hk).1)
  have hk : Kept v.ownBlock w w' := fun k x hk hx => at_grown r2 hx hk
  refine hVal (v := .slice (some ⟨g, 0, none⟩) (n + els.length) cap) (w' := w') ho hw ?_ (hk.held hS) (h g cap w' r1 hk hbel r2.size ?_ hlt)
  · simp [execOp, hop, resolve, invoke, builtin, hs, hx, hrun, Result.andThen]
  · rcases r5 with h5 | h5
    · exact .inl h5.symm
    · exact .inr (Option.some.inj h5)
theorem run_storeVar_any {w : World} (b o : Nat) (ty : TypeId) (v : Value) (cells : Array Value) (hv : v.cells = cells) (ht : w.there b o cells.size) (hi : (P.info? ty).map (·.size) = some cells.size) (h1 : cells.all (·.oneCell') = true) :
    (storeVar ty ⟨b, o, none⟩ v).run P w = .ok () (w.setCells b o cells.toList) := by
  have := run_storeCells_cells (P := P) b o cells.toList 0 w (fun j hj => by simpa using (ht j (by simpa using hj)).1) (fun j hj => by simpa using (ht j (by simpa using hj)).2)
    (fun v hv => (Array.all_eq_true_iff_forall_mem.1 h1) v (by simpa using hv))
  cases hq : P.info? ty with
  | none => simp [hq] at hi
  | some i =>
    have hs : cells.size = i.size := by simp [hq] at hi; omega
    simp only [Nat.add_zero] at this
    simp [storeVar, sizeOf, typeInfo, hq, hv, hs, this]
theorem hStore (ho : ops.toList[i]? = some o) (hw : Region.wanted o (yielded ops a.tmps) = true) (ty : TypeId) (x y : Operand) (hop : o.op = .store ty x y) (b off : Nat) (v : Value) (cells : Array Value) (hx : a.eval x = .pointer (some ⟨b, off, none⟩)) (hy : a.eval y = v) (hv : v.cells = cells)
    {C : Array Value} {T : TypeId} (hb : w.heap[b]? = some (.cells C T (0, 0))) (hfit : off + cells.size ≤ C.size) (hi : (P.info? ty).map (·.size) = some cells.size) (h1 : cells.all (·.oneCell') = true) (hS : b ∉ S)
    (h : R (a.put o.dst Go.undef) (w.setCells b off cells.toList)) : wpOp P ops Q i (fun a' w' => Held S w w' ∧ R a' w') a w := by
  letI : Base := (⟨w, [], []⟩ : Env).b
  obtain ⟨D, g1, g2, g3, g4, g5, g6, g7⟩ := setCells_at cells.toList off C w hb (by simpa using hfit)
  refine hSkip (w' := w.setCells b off cells.toList) ho hw ?_ (fun k hk x hx => (g3 k (fun e => hS (e ▸ hk))).trans hx) h
  unfold execOp
  simp only [hop, hx, hy, Instr.storeAt, Instr.sureAddr, Sem.run_bind, Sem.run_pure, Result.andThen_ok, run_storeVar_any b off ty v cells hv (there_block hb hfit) hi h1]
  try rfl
end
theorem ListAt.of_block {w : World} {H c : Nat} {cs : Array Value} {t : TypeId} (hb : w.heap[H]? = some (.cells cs t (0, 0))) {sz : Nat} (hs : cs.size = sz) (hc : 1 ≤ c ∧ c ≤ maxLen) : ListAt w (.slice (some ⟨H, 0, none⟩) 1 c) sz [cs.toList] :=
  ⟨⟨_, _, rfl⟩, by simp, fun i el hi => by
    have h0 : i = 0 := by have := (List.getElem?_eq_some_iff.1 hi).1; simpa using this
    subst h0
    simp only [List.getElem?_cons_zero, Option.some.injEq] at hi
    subst hi
    refine ⟨H, 0, c, rfl, fun f u hf => ?_⟩
    rw [cell_of_row w H _ cs t (0, 0) hb]
    simpa using hf, fun i el hi => by
    have h0 : i = 0 := by have := (List.getElem?_eq_some_iff.1 hi).1; simpa using this
    subst h0
    simp only [List.getElem?_cons_zero, Option.some.injEq] at hi
    subst hi
    simpa using hs, fun _ A n c' e => by cases e; exact hc⟩
def Box (w : World) (H : Nat) (t : TypeId) (a b c d : Value) : Prop := w.heap[H]? = some (.cells #[a, b, c, d] t (0, 0))
theorem Box.cells {w : World} {H : Nat} {t : TypeId} {a b c d : Value} (h : Box w H t a b c d) : w.cell? ⟨H, 0, none⟩ = some a ∧ w.cell? ⟨H, 1, none⟩ = some b ∧ w.cell? ⟨H, 2, none⟩ = some c ∧ w.cell? ⟨H, 3, none⟩ = some d := by
  refine ⟨?_, ?_, ?_, ?_⟩ <;> (rw [cell_of_row w H _ _ t (0, 0) h]; rfl)
theorem Box.lt {w : World} {H : Nat} {t : TypeId} {a b c d : Value} (h : Box w H t a b c d) : H < w.heap.size := (Array.getElem?_eq_some_iff.1 h).1
theorem Box.below {w w' : World} {H : Nat} {t : TypeId} {a b c d : Value} (h : Box w H t a b c d) (hb : Below w.heap.size w w') : Box w' H t a b c d := (hb.block H h.lt).trans h
theorem Box.kept {w w' : World} {H : Nat} {t : TypeId} {a b c d : Value} {r : Option Nat} (h : Box w H t a b c d) (hk : Kept r w w') (hr : some H ≠ r) : Box w' H t a b c d := hk H _ hr h
theorem Box.mk {w : World} {t : TypeId} {a b c d : Value} {H : Nat} (hH : w.heap.size = H) : Box (w.alloc (.cells #[a, b, c, d] t)) H t a b c d := at_alloc hH
theorem Box.more {w : World} {o : Obj} {H : Nat} {t : TypeId} {a b c d : Value} (h : Box w H t a b c d) : Box (w.alloc o) H t a b c d := at_more h
end Go.Proofs.YthdcahkedlijpaaGreat.Am
