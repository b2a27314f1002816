/- Regions whose order is drawn: what all steps of the machine tell. (No program in sight.) -/
import Derived.Test.YtaamdiknefodgaaDoorAmDraw1
namespace Go.Proofs.YtaamdiknefodgaaDoor.Am
set_option linter.unusedSectionVars false
noncomputable section
variable [Base]

structure Tr (C : Ctx) (fl : Nat) (ops : List Oper) (fr0 : Fr) (h0 : Heap) where
  st : Nat → RS
  k : Nat → Nat
  v : Nat → V
  D : Nat → Hp
  H : Nat → Heap
  q : Nat → Option Nat
  st0 : st 0 = ⟨fr0, h0.m, [], [], [], [], h0.next⟩
  step : ∀ i o, ops[i]? = some o → Step C fl ops h0 (st i) o (maskOf (st i).an o) (st (i + 1)) (k i) (v i) (D i) (H i) (q i)

theorem Tr.make {C : Ctx} {fl : Nat} {ops : List Oper} {fr0 : Fr} {h0 : Heap} {σ : RS} (h : anyR C fl ops ops ⟨fr0, h0.m, [], [], [], [], h0.next⟩ = some σ) : ∃ T : Tr C fl ops fr0 h0, T.st ops.length = σ ∧ ∀ i, T.q i = none := by
  obtain ⟨st, e0, e1, e2⟩ := any_steps ops _ _ h
  have : ∀ i, ∃ q : Nat × V × Hp × Heap, ∀ o, ops[i]? = some o → Step C fl ops h0 (st i) o (maskOf (st i).an o) (st (i + 1)) q.1 q.2.1 q.2.2.1 q.2.2.2 none := fun i => by
    cases ho : ops[i]? with
    | none => exact ⟨(0, undef, [], ⟨[], 0⟩), fun o h => by cases h⟩
    | some o =>
      obtain ⟨k, v, D, h', hs⟩ := step_some h0 (e2 i o ho)
      exact ⟨(k, v, D, h'), fun o' h => by cases h; exact hs⟩
  obtain ⟨f, hf⟩ := Classical.skolem.1 this
  exact ⟨⟨st, fun i => (f i).1, fun i => (f i).2.1, fun i => (f i).2.2.1, fun i => (f i).2.2.2, fun _ => none, e0, hf⟩, e1, fun _ => rfl⟩

section
variable {C : Ctx} {fl : Nat} {ops : List Oper} {fr0 : Fr} {h0 : Heap} (T : Tr C fl ops fr0 h0)

def Tr.m (i : Nat) : Nat := match ops[i]? with | some o => maskOf (T.st i).an o | none => 0
def Tr.nx (i : Nat) : Nat := (T.st i).nx
/-- the last listed operation that writes, and one on -/
def Tr.ep (L : Nat → Bool) : Nat → Nat
  | 0 => 0
  | i + 1 => if L i = true ∧ T.k i = 2 then i + 1 else Tr.ep L i
def every (_ : Nat) : Bool := true
def Tr.dst (_ : Tr C fl ops fr0 h0) (i : Nat) : Option Tmp := (ops[i]?).bind (·.dst)
/-- what stands in a slot, and how far its blocks go -/
def Tr.slot (L : Nat → Bool) : Nat → Nat → Option (V × Nat)
  | 0, t => (nth fr0 t).map fun v => (v, T.nx 0)
  | i + 1, t => if L i = true ∧ T.dst i = some t ∧ t < fr0.length then some (T.v i, T.nx (i + 1)) else Tr.slot L i t

theorem Tr.kind' {i : Nat} (hi : i < ops.length) : T.k i = 0 ∨ T.k i = 1 ∨ T.k i = 2 := by
  rcases (T.step i ops[i] (List.getElem?_eq_getElem hi)).kind with h | h | h
  · exact .inl h.1
  · exact .inr (.inl h.1)
  · exact .inr (.inr h.1)
theorem Tr.D_nil {i : Nat} (hi : i < ops.length) (h : T.k i ≠ 1) : T.D i = [] := by
  rcases (T.step i ops[i] (List.getElem?_eq_getElem hi)).kind with g | g | g
  · exact g.2.1
  · exact absurd g.1 h
  · exact g.2.1
theorem Tr.os : ∀ i, i ≤ ops.length → (T.st i).os = ops.take i
  | 0, _ => by rw [T.st0]; simp
  | i + 1, h => by
    have hi : i < ops.length := h
    rw [(T.step i ops[i] (List.getElem?_eq_getElem hi)).os, Tr.os i (by omega), List.take_succ_eq_append_getElem hi]
theorem Tr.an : ∀ i, i ≤ ops.length → (T.st i).an.length = i ∧ ∀ j, j < i → (T.st i).an[j]? = some (T.m j)
  | 0, _ => by rw [T.st0]; exact ⟨rfl, fun j hj => by omega⟩
  | i + 1, h => by
    have hi : i < ops.length := h
    have ho : ops[i]? = some ops[i] := List.getElem?_eq_getElem hi
    obtain ⟨h1, h2⟩ := Tr.an i (by omega)
    rw [(T.step i ops[i] ho).an]
    refine ⟨by simp [h1], fun j hj => ?_⟩
    by_cases e : j = i
    · subst e
      rw [List.getElem?_append_right (by omega), h1]
      simp [Tr.m, ho]
    · rw [List.getElem?_append_left (by omega)]
      exact h2 j (by omega)
theorem Tr.cl : ∀ i, i ≤ ops.length → (T.st i).cl.length = i ∧ ∀ j, j < i → (T.st i).cl[j]? = some (T.k j)
  | 0, _ => by rw [T.st0]; exact ⟨rfl, fun j hj => by omega⟩
  | i + 1, h => by
    have hi : i < ops.length := h
    have ho : ops[i]? = some ops[i] := List.getElem?_eq_getElem hi
    obtain ⟨h1, h2⟩ := Tr.cl i (by omega)
    rw [(T.step i ops[i] ho).cl]
    refine ⟨by simp [h1], fun j hj => ?_⟩
    by_cases e : j = i
    · subst e
      rw [List.getElem?_append_right (by omega), h1]
      simp
    · rw [List.getElem?_append_left (by omega)]
      exact h2 j (by omega)
theorem Tr.nx_le {i j : Nat} (hij : i ≤ j) (hj : j ≤ ops.length) : T.nx i ≤ T.nx j := by
  induction j with
  | zero => obtain rfl : i = 0 := by omega
            exact Nat.le_refl _
  | succ j ih =>
    by_cases e : i = j + 1
    · rw [e]; exact Nat.le_refl _
    · exact Nat.le_trans (ih (by omega) (by omega)) (T.step j ops[j] (List.getElem?_eq_getElem (by omega))).nx
theorem Tr.ep_le (L : Nat → Bool) : ∀ i, T.ep L i ≤ i
  | 0 => Nat.le_refl _
  | i + 1 => by
    unfold Tr.ep
    have := Tr.ep_le L i
    split <;> omega
theorem Tr.ep_gt {L : Nat → Bool} : ∀ {i j : Nat}, j < i → L j = true → T.k j = 2 → j < T.ep L i
  | 0, j, h, _, _ => by omega
  | i + 1, j, h, hl, hk => by
    unfold Tr.ep
    split
    · omega
    · rename_i hn
      by_cases e : j = i
      · subst e; exact absurd ⟨hl, hk⟩ hn
      · exact Tr.ep_gt (by omega) hl hk
/-- the same writers: the same epoch -/
theorem Tr.ep_congr {L L' : Nat → Bool} : ∀ {i : Nat}, (∀ j, j < i → T.k j = 2 → L j = L' j) → T.ep L i = T.ep L' i
  | 0, _ => rfl
  | i + 1, h => by
    unfold Tr.ep
    rw [Tr.ep_congr fun j hj hk => h j (by omega) hk]
    by_cases hk : T.k i = 2
    · rw [h i (by omega) hk]
    · simp [hk]
theorem Tr.ep_tail {L : Nat → Bool} {i : Nat} : ∀ {n : Nat}, i ≤ n → (∀ j, i ≤ j → j < n → T.k j = 2 → L j = false) → T.ep L n = T.ep L i
  | 0, h, _ => by obtain rfl : i = 0 := by omega
                  rfl
  | n + 1, h, hn => by
    by_cases e : i = n + 1
    · rw [e]
    · have : ¬ (L n = true ∧ T.k n = 2) := fun ⟨h1, h2⟩ => by rw [hn n (by omega) (by omega) h2] at h1; cases h1
      conv => lhs; unfold Tr.ep
      rw [if_neg this]
      exact Tr.ep_tail (by omega) fun j h1 h2 h3 => hn j h1 (by omega) h3
theorem Tr.ep_range {L : Nat → Bool} : ∀ {n j : Nat}, T.ep L n ≤ j → j < n → L j = true → T.k j ≠ 2
  | _, j, h1, h2, h3 => fun hk => by have := T.ep_gt h2 h3 hk; omega
theorem Tr.hb : ∀ i, i ≤ ops.length → (T.st i).hb = (T.st (T.ep every i)).hb
  | 0, _ => rfl
  | i + 1, h => by
    have hi : i < ops.length := h
    have hs := T.step i ops[i] (List.getElem?_eq_getElem hi)
    unfold Tr.ep
    by_cases hk : T.k i = 2
    · rw [if_pos ⟨rfl, hk⟩]
    · rw [if_neg (fun h => hk h.2), ← Tr.hb i (by omega)]
      rcases hs.kind with g | g | g
      · exact g.2.2.1
      · exact g.2.2.1
      · exact absurd g.1 hk
theorem Tr.ds : ∀ i, i ≤ ops.length → (T.st i).ds.length = i ∧ ∀ j, j < i → (T.st i).ds[j]? = some (if T.ep every i ≤ j then T.D j else [])
  | 0, _ => by rw [T.st0]; exact ⟨rfl, fun j hj => by omega⟩
  | i + 1, h => by
    have hi : i < ops.length := h
    have hs := T.step i ops[i] (List.getElem?_eq_getElem hi)
    obtain ⟨h1, h2⟩ := Tr.ds i (by omega)
    have key : ∀ X : Hp, T.k i ≠ 2 → (T.st (i + 1)).ds = (T.st i).ds ++ [X] → X = T.D i → (T.st (i + 1)).ds.length = i + 1 ∧ ∀ j, j < i + 1 → (T.st (i + 1)).ds[j]? = some (if T.ep every (i + 1) ≤ j then T.D j else []) := by
      intro X hk e eX
      rw [e]
      refine ⟨by simp [h1], fun j hj => ?_⟩
      have hep : T.ep every (i + 1) = T.ep every i := by conv => lhs; unfold Tr.ep
                                                         rw [if_neg (fun h => hk h.2)]
      rw [hep]
      by_cases ej : j = i
      · subst ej
        rw [List.getElem?_append_right (by omega), h1, eX, if_pos (T.ep_le _ _)]
        simp
      · rw [List.getElem?_append_left (by omega)]
        exact h2 j (by omega)
    rcases hs.kind with g | g | g
    · exact key [] (by omega) g.2.2.2.1 g.2.1.symm
    · exact key _ (by omega) g.2.2.2.1 rfl
    · rw [g.2.2.2.1]
      refine ⟨by simp [h1], fun j hj => ?_⟩
      have hep : T.ep every (i + 1) = i + 1 := by unfold Tr.ep; rw [if_pos ⟨rfl, g.1⟩]
      rw [hep, if_neg (by omega), List.getElem?_map, List.getElem?_eq_getElem (by simp; omega)]
      rfl
theorem Tr.pair {i j : Nat} (hj : j < i) (hi : i < ops.length) {x y : Oper} (hx : ops[j]? = some x) (hy : ops[i]? = some y) :
    Nat.testBit (T.m i) j = true ∨ (apartV ops x y = true ∧ (T.k i = 2 → T.k j = 0) ∧ (T.k j = 2 → T.k i = 0)) := by
  have hs := T.step i y hy
  have h1 : (T.st i).os[j]? = some x := by rw [T.os i (by omega), List.getElem?_take_of_lt hj]; exact hx
  have := pairs_spec ops y _ _ _ _ 0 hs.pairs j x (T.k j) h1 ((T.cl i (by omega)).2 j hj)
  rw [Nat.zero_add] at this
  have hm : T.m i = maskOf (T.st i).an y := by simp [Tr.m, hy]
  rwa [hm]
theorem Tr.frame : ∀ i, i ≤ ops.length → (T.st i).fr.length = fr0.length ∧ ∀ t, nth (T.st i).fr t = (T.slot every i t).map (·.1)
  | 0, _ => by
    rw [T.st0]
    refine ⟨rfl, fun t => ?_⟩
    show nth fr0 t = _
    unfold Tr.slot
    cases nth fr0 t <;> rfl
  | i + 1, h => by
    have hi : i < ops.length := h
    have ho : ops[i]? = some ops[i] := List.getElem?_eq_getElem hi
    have hs := T.step i ops[i] ho
    obtain ⟨h1, h2⟩ := Tr.frame i (by omega)
    rw [hs.fr]
    have hd : T.dst i = ops[i].dst := by simp [Tr.dst, ho]
    cases hdd : ops[i].dst with
    | none =>
      refine ⟨h1, fun t => ?_⟩
      show nth (T.st i).fr t = _
      conv => rhs; unfold Tr.slot
      rw [hd, hdd, if_neg (by simp)]
      exact h2 t
    | some d =>
      refine ⟨?_, fun t => ?_⟩
      · show (upd (T.st i).fr d (T.v i)).length = _
        rw [upd_eq]; simpa using h1
      · show nth (upd (T.st i).fr d (T.v i)) t = _
        rw [upd_eq, nth_eq, List.getElem?_set]
        conv => rhs; unfold Tr.slot
        rw [hd, hdd, h1]
        by_cases e : d = t
        · subst e
          by_cases hl : d < fr0.length
          · simp [hl, every]
          · have h2d := h2 d
            rw [nth_eq, List.getElem?_eq_none (by rw [h1]; exact Nat.le_of_not_lt hl)] at h2d
            simp only [hl, if_false, if_true, and_false]
            exact h2d
        · have e' : ¬ (some d = some t) := by simpa using e
          simp only [e, if_false, e', false_and, and_false]
          rw [← h2 t, nth_eq]
/-- a slot that is looked at holds what it holds in the text's order -/
theorem Tr.slot_look {L : Nat → Bool} {i : Nat} (hi : i < ops.length) {o : Oper} (ho : ops[i]? = some o) (hLi : L i = false) (hdc : ∀ p q, L p = true → p < ops.length → Nat.testBit (T.m p) q = true → L q = true)
    (hr : ∀ q, Nat.testBit (T.m i) q = true → L q = true) {t : Nat} (ht : t ∈ lookV ops o) : T.slot L ops.length t = T.slot every i t := by
  have h1 : ∀ n, i ≤ n → n ≤ ops.length → T.slot L n t = T.slot L i t := by
    intro n
    induction n with
    | zero => intro h _; obtain rfl : i = 0 := by omega
              rfl
    | succ n ih =>
      intro h hn
      by_cases e : i = n + 1
      · rw [e]
      · rw [← ih (by omega) (by omega)]
        conv => lhs; unfold Tr.slot
        rw [if_neg]
        rintro ⟨g1, g2, _⟩
        by_cases e' : n = i
        · subst e'; rw [hLi] at g1; cases g1
        · have hn' : n < ops.length := by omega
          have hx : ops[n]? = some ops[n] := List.getElem?_eq_getElem hn'
          rcases T.pair (show i < n by omega) hn' ho hx with g | ⟨g, _⟩
          · have := hdc n i g1 hn' g
            rw [hLi] at this; cases this
          · have gd : ops[n].dst = some t := by simpa [Tr.dst, hx] using g2
            exact (apart_spec g).2 t gd ht
  have h2 : ∀ n, n ≤ i → T.slot L n t = T.slot every n t := by
    intro n
    induction n with
    | zero => intro _; rfl
    | succ n ih =>
      intro hn
      unfold Tr.slot
      rw [ih (by omega)]
      by_cases g : T.dst n = some t ∧ t < fr0.length
      · have hx : ops[n]? = some ops[n] := List.getElem?_eq_getElem (by omega)
        have hL : L n = true := by
          rcases T.pair (show n < i by omega) hi hx ho with g' | ⟨g', _⟩
          · exact hr n g'
          · have gd : ops[n].dst = some t := by simpa [Tr.dst, hx] using g.1
            exact absurd ht ((apart_spec g').1 t gd).1
        rw [hL]
        rfl
      · rw [if_neg (fun h => g h.2), if_neg (fun h => g h.2)]
  rw [h1 ops.length (by omega) (Nat.le_refl _), h2 i (Nat.le_refl _)]
/-- the slot that is written holds what was written; the others are as they were -/
theorem Tr.slot_put {L : Nat → Bool} {i : Nat} (hi : i < ops.length) {o : Oper} (ho : ops[i]? = some o) (hLi : L i = false) (hdc : ∀ p q, L p = true → p < ops.length → Nat.testBit (T.m p) q = true → L q = true) (t : Nat) :
    T.slot (fun j => if j = i then true else L j) ops.length t = if o.dst = some t ∧ t < fr0.length then some (T.v i, T.nx (i + 1)) else T.slot L ops.length t := by
  have hd : T.dst i = o.dst := by simp [Tr.dst, ho]
  have h2 : ∀ n, n ≤ i → T.slot (fun j => if j = i then true else L j) n t = T.slot L n t := by
    intro n
    induction n with
    | zero => intro _; rfl
    | succ n ih =>
      intro hn
      unfold Tr.slot
      rw [ih (by omega)]
      simp only [show n ≠ i by omega, if_false]
  have h1 : ∀ n, i < n → n ≤ ops.length → T.slot (fun j => if j = i then true else L j) n t = if o.dst = some t ∧ t < fr0.length then some (T.v i, T.nx (i + 1)) else T.slot L n t := by
    intro n
    induction n with
    | zero => intro h _; omega
    | succ n ih =>
      intro h hn
      by_cases e : n = i
      · subst e
        conv => lhs; unfold Tr.slot
        conv => rhs; unfold Tr.slot
        rw [h2 n (Nat.le_refl _), hd]
        simp [hLi]
      · have hn' : n < ops.length := by omega
        have hx : ops[n]? = some ops[n] := List.getElem?_eq_getElem hn'
        conv => lhs; unfold Tr.slot
        conv => rhs; unfold Tr.slot
        rw [ih (by omega) (by omega)]
        simp only [e, if_false]
        by_cases g : L n = true ∧ T.dst n = some t ∧ t < fr0.length
        · rw [if_pos g]
          have hno : ¬ (o.dst = some t ∧ t < fr0.length) := by
            rintro ⟨g1, _⟩
            rcases T.pair (show i < n by omega) hn' ho hx with g' | ⟨g', _⟩
            · have := hdc n i g.1 hn' g'
              rw [hLi] at this; cases this
            · have gd : ops[n].dst = some t := by simpa [Tr.dst, hx] using g.2.1
              exact ((apart_spec g').1 t g1).2 gd
          rw [if_neg hno, if_pos g]
        · rw [if_neg g, if_neg g]
  exact h1 ops.length hi (Nat.le_refl _)
theorem Tr.slot_scope {L : Nat → Bool} : ∀ {i : Nat}, i ≤ ops.length → ∀ {t : Nat} {v : V} {q : Nat}, T.slot L i t = some (v, q) → q ≤ T.nx i
  | 0, _, t, v, q, h => by
    unfold Tr.slot at h
    cases hn : nth fr0 t <;> rw [hn] at h <;> cases h
    exact Nat.le_refl _
  | i + 1, hi, t, v, q, h => by
    unfold Tr.slot at h
    split at h
    · cases h; exact Nat.le_refl _
    · exact Nat.le_trans (Tr.slot_scope (by omega) h) (T.nx_le (by omega) hi)
end
end
end Go.Proofs.YtaamdiknefodgaaDoor.Am
