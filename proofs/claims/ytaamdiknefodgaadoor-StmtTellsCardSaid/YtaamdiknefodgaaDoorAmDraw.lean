/- Regions whose order is drawn: every order comes to the same. (No program in sight.) -/
import Derived.Test.YtaamdiknefodgaaDoorAmDraw2
namespace Go.Proofs.YtaamdiknefodgaaDoor.Am
set_option linter.unusedSectionVars false
set_option linter.unusedVariables false
variable [Base]

def Ren.cut (r : Ren) (n : Nat) : Ren := ⟨fun l => r.ok l ∧ l < n, r.blk, r.off, r.cap⟩
theorem Ren.cut_le (r : Ren) (n : Nat) : (r.cut n).le r := ⟨fun _ h => h.1, fun _ _ => rfl, fun _ _ => rfl, fun _ _ => rfl⟩
theorem Ren.le.cut {r r' : Ren} (h : r.le r') {n n' : Nat} (hn : n ≤ n') : (r.cut n).le (r'.cut n') :=
  ⟨fun l hl => ⟨h.n l hl.1, Nat.lt_of_lt_of_le hl.2 hn⟩, fun l hl => h.blk l hl.1, fun l hl => h.off l hl.1, fun l hl => h.cap l hl.1⟩
theorem VV.exact {r r' : Ren} (h : r.le r') {x : V} {v : Value} (k : VV r x v) : VV r' x v := VV.mono h k

theorem Hp.get_append (a b : Hp) (l : Nat) : Hp.get (a ++ b) l = match Hp.get a l with | some x => some x | none => Hp.get b l := by
  induction a with
  | nil => rfl
  | cons p a ih =>
    rw [List.cons_append, Hp.get_cons, Hp.get_cons]
    cases (p.1 == l)
    · exact ih
    · rfl
theorem get_newD (n : Nat) : ∀ (m : Hp) {l : Nat} {b : Blk}, Hp.get (newD n m) l = some b → Hp.get m l = some b ∧ n ≤ l
  | [], l, b, h => by cases h
  | p :: m, l, b, h => by
    unfold newD at h
    rw [List.filter_cons] at h
    cases hp : Nat.ble n p.1 <;> rw [hp] at h
    · simp only [Bool.false_eq_true, if_false] at h
      obtain ⟨h1, h2⟩ := get_newD n m h
      rw [Hp.get_cons]
      have : (p.1 == l) = false := by
        cases e : (p.1 == l)
        · rfl
        · have e' : p.1 = l := by simpa using e
          rw [e', Nat.ble_eq_true_of_le h2] at hp
          cases hp
      rw [this]
      exact ⟨h1, h2⟩
    · simp only [if_true] at h
      rw [Hp.get_cons] at h ⊢
      cases e : (p.1 == l) <;> rw [e] at h
      · exact get_newD n m h
      · have e' : p.1 = l := by simpa using e
        exact ⟨h, by rw [← e']; exact Nat.le_of_ble_eq_true hp⟩
theorem get_newD' (n : Nat) : ∀ (m : Hp) {l : Nat}, n ≤ l → Hp.get (newD n m) l = Hp.get m l
  | [], _, _ => rfl
  | p :: m, l, h => by
    unfold newD
    rw [List.filter_cons]
    cases hp : Nat.ble n p.1
    · simp only [Bool.false_eq_true, if_false]
      rw [Hp.get_cons]
      have : (p.1 == l) = false := by
        cases e : (p.1 == l)
        · rfl
        · have e' : p.1 = l := by simpa using e
          rw [e', Nat.ble_eq_true_of_le h] at hp
          cases hp
      rw [this]
      exact get_newD' n m h
    · simp only [if_true]
      rw [Hp.get_cons, Hp.get_cons]
      cases (p.1 == l)
      · exact get_newD' n m h
      · rfl
/-- what stands in the parts that were taken stands in one of them -/
theorem get_selD (m : Nat) : ∀ (ds : List Hp) (i : Nat) {l : Nat} {b : Blk}, Hp.get (selD m i ds) l = some b → ∃ (j : Nat) (d : Hp), ds[j]? = some d ∧ Nat.testBit m (i + j) = true ∧ Hp.get d l = some b
  | [], i, l, b, h => by cases h
  | d :: ds, i, l, b, h => by
    unfold selD at h
    have rest : Hp.get (selD m (i + 1) ds) l = some b → ∃ (j : Nat) (d' : Hp), (d :: ds)[j]? = some d' ∧ Nat.testBit m (i + j) = true ∧ Hp.get d' l = some b := fun h => by
      obtain ⟨j, d', h1, h2, h3⟩ := get_selD m ds (i + 1) h
      exact ⟨j + 1, d', by simpa using h1, by rwa [show i + (j + 1) = i + 1 + j by omega], h3⟩
    cases hm : Nat.testBit m i <;> rw [hm] at h
    · exact rest h
    · simp only [cond_true] at h
      rw [Hp.get_append] at h
      cases hd : Hp.get d l with
      | none => rw [hd] at h; exact rest h
      | some x => rw [hd] at h; cases h; exact ⟨0, d, rfl, by simpa using hm, hd⟩
theorem get_flatten : ∀ (ds : List Hp) {l : Nat} {b : Blk}, Hp.get ds.flatten l = some b → ∃ (j : Nat) (d : Hp), ds[j]? = some d ∧ Hp.get d l = some b
  | [], l, b, h => by cases h
  | d :: ds, l, b, h => by
    rw [List.flatten_cons, Hp.get_append] at h
    cases hd : Hp.get d l with
    | none =>
      rw [hd] at h
      obtain ⟨j, d', h1, h2⟩ := get_flatten ds h
      exact ⟨j + 1, d', by simpa using h1, h2⟩
    | some x => rw [hd] at h; cases h; exact ⟨0, d, rfl, hd⟩
theorem get_flatten' : ∀ (ds : List Hp) {l : Nat} {b : Blk} {j : Nat} {d : Hp}, ds[j]? = some d → Hp.get d l = some b → (∀ i d', ds[i]? = some d' → i ≠ j → Hp.get d' l = none) → Hp.get ds.flatten l = some b
  | [], _, _, _, _, h, _, _ => by simp at h
  | c :: ds, l, b, j, d, h1, h2, h3 => by
    rw [List.flatten_cons, Hp.get_append]
    cases j with
    | zero => simp at h1; subst h1; rw [h2]
    | succ j =>
      rw [h3 0 c rfl (by omega)]
      exact get_flatten' ds (by simpa using h1) h2 fun i d' hd hne => h3 (i + 1) d' (by simpa using hd) (by omega)

section
variable {P : Program} {C : Ctx} {fl : Nat} {ops : List Oper} {s0 : St} (T : Tr C fl ops s0.fr s0.h)

/-- the blocks that the machine has when those operations are done -/
def PL (L : Nat → Bool) (l : Nat) (b : Blk) : Prop :=
  (∃ j, j < ops.length ∧ L j = true ∧ T.k j = 1 ∧ T.ep L ops.length ≤ j ∧ Hp.get (T.D j) l = some b) ∨ Hp.get (T.st (T.ep L ops.length)).hb l = some b

structure J (r0 : Ren) (B : Nat) (a0 : Act) (w0 : World) (L : Nat → Bool) (r : Ren) (a : Act) (W : World) : Prop where
  dc : ∀ p q, L p = true → p < ops.length → Nat.testBit (T.m p) q = true → L q = true
  len : a.tmps.size = s0.fr.length
  defers : a.defers = a0.defers
  slot : ∀ t v q, T.slot L ops.length t = some (v, q) → ∃ u, a.tmps[t]? = some u ∧ VV (r.cut q) v u
  b : B ≤ W.heap.size
  base : HR (Hp.get (T.st (T.ep L ops.length)).hb) (r.cut (T.nx (T.ep L ops.length))) B W
  part : ∀ j, j < ops.length → L j = true → T.k j = 1 → T.ep L ops.length ≤ j → HR (Hp.get (T.D j)) (r.cut (T.nx (j + 1))) B W ∧ ∀ l b, Hp.get (T.D j) l = some b → T.nx j ≤ l
  inj : ∀ l b l' b', PL T L l b → b.own = true → PL T L l' b' → b'.own = true → r.blk l = r.blk l' → l = l'
  okk : ∀ l, r.ok l → l < T.nx (T.ep L ops.length) ∨ ∃ j, j < ops.length ∧ L j = true ∧ T.k j = 1 ∧ T.ep L ops.length ≤ j ∧ T.nx j ≤ l ∧ l < T.nx (j + 1)
  le : r0.le r
  okn : ∀ l, r.ok l → r0.ok l ∨ s0.h.next ≤ l
  os : W.os = w0.os
  tape : W.tape = w0.tape
  output : W.output = w0.output
  size : w0.heap.size ≤ W.heap.size
  frame : ∀ b, b < w0.heap.size → (∀ l k, s0.h.get l = some k → k.own = true → fl ≤ l → r0.blk l ≠ b) → W.heap[b]? = w0.heap[b]?
  keep : ∀ l, l < s0.h.next → l < fl → Hp.get (T.st (T.ep L ops.length)).hb l = s0.h.get l
  old : ∀ l b', l < s0.h.next → Hp.get (T.st (T.ep L ops.length)).hb l = some b' → ∃ b, s0.h.get l = some b ∧ b.own = b'.own
  fresh : ∀ l b', s0.h.next ≤ l → PL T L l b' → b'.own = true ∧ (w0.heap.size ≤ r.blk l ∨ ∃ l0 b0, s0.h.get l0 = some b0 ∧ b0.own = true ∧ fl ≤ l0 ∧ r.blk l = r0.blk l0)

theorem nx0 : T.nx 0 = s0.h.next := by simp [Tr.nx, T.st0]

variable {T} {r0 : Ren} {B : Nat} {a0 : Act} {w0 : World} {L : Nat → Bool} {r : Ren} {a : Act} {W : World}

theorem J.start (i : Inv s0.h r0 B w0) (f : FR r0 s0.fr a0) : J T r0 B a0 w0 (fun _ => false) r0 a0 w0.drew := by
  have hep : T.ep (fun _ => false) ops.length = 0 := by
    have : ∀ n, T.ep (fun _ => false) n = 0 := by
      intro n
      induction n with
      | zero => rfl
      | succ n ih => unfold Tr.ep; rw [if_neg (by simp)]; exact ih
    exact this _
  have hhb : (T.st 0).hb = s0.h.m := by rw [T.st0]
  have hsl : ∀ n t, T.slot (fun _ => false) n t = (nth s0.fr t).map fun v => (v, T.nx 0) := by
    intro n t
    induction n with
    | zero => rfl
    | succ n ih => unfold Tr.slot; rw [if_neg (by simp)]; exact ih
  have hcut : r0.le (r0.cut s0.h.next) := ⟨fun l hl => ⟨hl, i.n l hl⟩, fun _ _ => rfl, fun _ _ => rfl, fun _ _ => rfl⟩
  have hpl : ∀ l b, PL T (fun _ => false) l b → s0.h.get l = some b := fun l b h => by
    rcases h with ⟨j, _, h, _⟩ | h
    · cases h
    · rw [hep, hhb] at h; exact h
  refine ⟨fun p q h => (by cases h), ?_, rfl, fun t v q h => ?_, i.b, ?_, fun j _ h => (by cases h), fun l b l' b' h1 o1 h2 o2 e => ?_, fun l hl => ?_, Ren.le.refl _, fun _ h => .inl h, rfl, rfl, rfl, Nat.le_refl _, fun _ _ _ => rfl, fun l _ _ => ?_, fun l b' _ h => ?_, fun l b' hl h => ?_⟩
  · have := f.len; simp at this; omega
  · rw [hsl] at h
    cases hn : nth s0.fr t with
    | none => rw [hn] at h; cases h
    | some v' =>
      rw [hn] at h
      simp only [Option.map_some, Option.some.injEq, Prod.mk.injEq] at h
      obtain ⟨rfl, rfl⟩ := h
      obtain ⟨u, hu, hv⟩ := All2.nth f hn
      exact ⟨u, by simpa using hu, by rw [nx0]; exact VV.mono hcut hv⟩
  · rw [hep, hhb, nx0]
    exact (i.hr.mono hcut).keep i.b (fun _ _ => rfl)
  · exact i.hr.inj l b l' b' (hpl l b h1) o1 (hpl l' b' h2) o2 e
  · rw [hep, nx0]; exact .inl (i.n l hl)
  · rw [hep, hhb]; rfl
  · rw [hep, hhb] at h; exact ⟨b', h, rfl⟩
  · exact absurd (i.n l (i.hr.dom l b' (hpl l b' h))) (Nat.not_lt.2 hl)

abbrev put (L : Nat → Bool) (i : Nat) : Nat → Bool := fun j => if j = i then true else L j

/-- what is known of an operation that may come next -/
structure Next (T : Tr C fl ops s0.fr s0.h) (L : Nat → Bool) (i : Nat) (o : Oper) : Prop where
  lt : i < ops.length
  op : ops[i]? = some o
  no : L i = false
  all : ∀ q, Nat.testBit (T.m i) q = true → L q = true

theorem J.dc' {r0 : Ren} (j : J T r0 B a0 w0 L r a W) {i : Nat} {o : Oper} (n : Next T L i o) : ∀ p q, put L i p = true → p < ops.length → Nat.testBit (T.m p) q = true → put L i q = true := by
  intro p q h1 h2 h3
  simp only [put] at h1 ⊢
  split
  · rfl
  · by_cases e : p = i
    · subst e; exact n.all q h3
    · rw [if_neg e] at h1
      exact j.dc p q h1 h2 h3

/-- nothing behind it was done that has to do with memory -/
theorem J.behind {r0 : Ren} (j : J T r0 B a0 w0 L r a W) {i : Nat} {o : Oper} (n : Next T L i o) {p : Nat} (hp : i < p) (hl : p < ops.length) (hL : L p = true) : (T.k p = 2 → T.k i = 0) ∧ (T.k i = 2 → T.k p = 0) := by
  have hx : ops[p]? = some ops[p] := List.getElem?_eq_getElem hl
  rcases T.pair hp hl n.op hx with g | ⟨_, g1, g2⟩
  · have := j.dc p i hL hl g
    rw [n.no] at this; cases this
  · exact ⟨g1, g2⟩
theorem J.ahead {i : Nat} {o : Oper} (n : Next T L i o) {p : Nat} (hp : p < i) : L p = true ∨ ((T.k i = 2 → T.k p = 0) ∧ (T.k p = 2 → T.k i = 0)) := by
  have hx : ops[p]? = some (ops[p]'(Nat.lt_trans hp n.lt)) := List.getElem?_eq_getElem _
  rcases T.pair hp n.lt hx n.op with g | ⟨_, g1, g2⟩
  · exact .inl (n.all p g)
  · exact .inr ⟨g1, g2⟩
/-- the epoch is that of the text's order -/
theorem J.epoch (j : J T r0 B a0 w0 L r a W) {i : Nat} {o : Oper} (n : Next T L i o) (hk : T.k i ≠ 0) : T.ep L ops.length = T.ep every i := by
  rw [T.ep_tail (i := i) (Nat.le_of_lt n.lt) fun p h1 h2 h3 => ?_]
  · refine T.ep_congr fun p hp h3 => ?_
    rcases J.ahead n hp with g | g
    · rw [g]; rfl
    · exact absurd (g.2 h3) hk
  · cases hL : L p with
    | false => rfl
    | true =>
      by_cases e : p = i
      · subst e; rw [n.no] at hL; cases hL
      · exact absurd ((j.behind n (by omega) h2 hL).1 h3) hk
theorem part_dis {j j' : Nat} (hj : j < ops.length) (hj' : j' < ops.length) {l : Nat} (h1 : T.nx j ≤ l) (h2 : l < T.nx (j + 1)) (h3 : T.nx j' ≤ l) (h4 : l < T.nx (j' + 1)) : j = j' := by
  rcases Nat.lt_trichotomy j j' with h | h | h
  · have := T.nx_le (show j + 1 ≤ j' by omega) (by omega); omega
  · exact h
  · have := T.nx_le (show j' + 1 ≤ j by omega) (by omega); omega

/-- an operation without memory -/
theorem J.free (j : J T r0 B a0 w0 L r a W) {i : Nat} {o : Oper} (n : Next T L i o) (hk : T.k i = 0) {u : Value} (hu : VV (r.cut (T.nx (i + 1))) (T.v i) u) : J T r0 B a0 w0 (put L i) r (a.put o.dst u) W := by
  have hep : T.ep (put L i) ops.length = T.ep L ops.length := T.ep_congr fun p _ h => by
    by_cases e : p = i
    · subst e; omega
    · simp [put, e]
  have hpl : ∀ l b, PL T (put L i) l b → PL T L l b := fun l b h => by
    rcases h with ⟨q, h1, h2, h3, h4, h5⟩ | h
    · by_cases e : q = i
      · subst e; omega
      · exact .inl ⟨q, h1, by simpa [put, e] using h2, h3, by rw [hep] at h4; exact h4, h5⟩
    · rw [hep] at h; exact .inr h
  refine ⟨j.dc' n, ?_, ?_, fun t v q h => ?_, j.b, ?_, fun q h1 h2 h3 h4 => ?_, fun l b l' b' h1 o1 h2 o2 e => j.inj l b l' b' (hpl l b h1) o1 (hpl l' b' h2) o2 e, fun l hl => ?_, j.le, j.okn, j.os, j.tape, j.output, j.size, j.frame, fun l h1 h2 => ?_, fun l b' h1 h2 => ?_, fun l b' h1 h2 => j.fresh l b' h1 (hpl l b' h2)⟩
  · rw [← j.len]; cases o.dst <;> simp [Act.put]
  · rw [← j.defers]; cases o.dst <;> rfl
  · rw [T.slot_put n.lt n.op n.no j.dc t] at h
    split at h
    · rename_i hd
      cases h
      refine ⟨u, ?_, hu⟩
      rw [hd.1]
      simp [Act.put, j.len, hd.2]
    · rename_i hd
      obtain ⟨u', h1, h2⟩ := j.slot t v q h
      refine ⟨u', ?_, h2⟩
      cases ho : o.dst with
      | none => exact h1
      | some d =>
        have : ¬ d = t := fun e => hd ⟨by rw [ho, e], by have := (Array.getElem?_eq_some_iff.1 h1).1; rw [j.len] at this; exact this⟩
        simp [Act.put, this, h1]
  · rw [hep]; exact j.base
  · by_cases e : q = i
    · subst e; omega
    · exact j.part q h1 (by simpa [put, e] using h2) h3 (by rw [hep] at h4; exact h4)
  · rcases j.okk l hl with h | ⟨q, h1, h2, h3, h4, h5⟩
    · rw [hep]; exact .inl h
    · exact .inr ⟨q, h1, by simp [put, h2], h3, by rw [hep]; exact h4, h5⟩
  · rw [hep]; exact j.keep l h1 h2
  · rw [hep] at h2; exact j.old l b' h1 h2

/-- the memory that an operation is given: its blocks, and where each comes from -/
theorem J.given (j : J T r0 B a0 w0 L r a W) {i : Nat} {o : Oper} (n : Next T L i o) (hk : T.k i ≠ 0) {m : Nat → Option Blk}
    (hm : ∀ l b, m l = some b → (∃ q, q < i ∧ L q = true ∧ T.ep every i ≤ q ∧ Hp.get (T.D q) l = some b) ∨ Hp.get (T.st (T.ep every i)).hb l = some b) :
    (∀ l b, m l = some b → PL T L l b) ∧ HR m (r.cut (T.nx i)) B W := by
  have he := j.epoch n hk
  have hlt := n.lt
  have hpl : ∀ l b, m l = some b → PL T L l b := fun l b h => by
    rcases hm l b h with ⟨q, h1, h2, h3, h4⟩ | h
    · have hq : q < ops.length := by omega
      refine .inl ⟨q, hq, h2, ?_, by rw [he]; exact h3, h4⟩
      have : T.k q = 1 ∨ T.k q ≠ 1 := by omega
      rcases this with g | g
      · exact g
      · rw [T.D_nil hq g] at h4; cases h4
    · exact .inr (by rw [he]; exact h)
  have hsc : ∀ l b, m l = some b → ∃ m' q, HR m' (r.cut q) B W ∧ m' l = some b ∧ q ≤ T.nx i := fun l b h => by
    rcases hm l b h with ⟨q, h1, h2, h3, h4⟩ | h'
    · have hq : q < ops.length := by omega
      have g : T.k q = 1 := by
        have : T.k q = 1 ∨ T.k q ≠ 1 := by omega
        rcases this with g | g
        · exact g
        · rw [T.D_nil hq g] at h4; cases h4
      exact ⟨_, _, (j.part q hq h2 g (by rw [he]; exact h3)).1, h4, T.nx_le (by omega) (by omega)⟩
    · exact ⟨_, _, j.base, by rw [he]; exact h', by rw [he]; exact T.nx_le (T.ep_le _ _) (by omega)⟩
  have hle : ∀ q, q ≤ T.nx i → (r.cut q).le (r.cut (T.nx i)) := fun q hq => (Ren.le.refl r).cut hq
  refine ⟨hpl, fun l b hb => ?_, fun l b hb ho => ?_, fun l b hb ho => ?_, fun l b l' b' h1 o1 h2 o2 e => j.inj l b l' b' (hpl l b h1) o1 (hpl l' b' h2) o2 e, j.base.nb, j.base.z⟩
  · obtain ⟨m', q, h1, h2, h3⟩ := hsc l b hb
    exact (h1.mono (hle q h3)).dom l b h2
  · obtain ⟨m', q, h1, h2, h3⟩ := hsc l b hb
    exact (h1.mono (hle q h3)).own l b h2 ho
  · obtain ⟨m', q, h1, h2, h3⟩ := hsc l b hb
    exact (h1.mono (hle q h3)).ro l b h2 ho

theorem own_lt {m : Nat → Option Blk} {r : Ren} {B : Nat} {w : World} (h : HR m r B w) {l : Nat} {b : Blk} (hb : m l = some b) (ho : b.own = true) : r.blk l < w.heap.size := by
  obtain ⟨_, _, C', T', fz', h3, _⟩ := h.own l b hb ho
  exact (Array.getElem?_eq_some_iff.1 h3).1
theorem J.pl_lt (j : J T r0 B a0 w0 L r a W) {l : Nat} {b : Blk} (h : PL T L l b) (ho : b.own = true) : r.blk l < W.heap.size := by
  rcases h with ⟨q, h1, h2, h3, h4, h5⟩ | h
  · exact own_lt (j.part q h1 h2 h3 h4).1 h5 ho
  · exact own_lt j.base h ho

/-- an operation that reads, or makes memory -/
theorem J.quiet (j : J T r0 B a0 w0 L r a W) {i : Nat} {o : Oper} (n : Next T L i o) (hk : T.k i = 1) (hD : T.D i = newD (T.nx i) (T.H i).m) (hnx : T.nx (i + 1) = (T.H i).next) {h : Heap} (hnext : h.next = T.nx i)
    {u : Value} {W' : World} (hi : Inv h (r.cut (T.nx i)) B W) (hp : Post B (T.nx i) h (r.cut (T.nx i)) W (T.v i) (T.H i) u W') : ∃ r', J T r0 B a0 w0 (put L i) r' (a.put o.dst u) W' := by
  obtain ⟨r1, i1, hv, ad⟩ := hp
  have hlt := n.lt
  have he := j.epoch n (by omega)
  have hep : T.ep (put L i) ops.length = T.ep L ops.length := T.ep_congr fun p _ h => by
    by_cases e : p = i
    · subst e; omega
    · simp [put, e]
  have hEi : T.ep L ops.length ≤ i := by rw [he]; exact T.ep_le _ _
  have hnn : T.nx i ≤ T.nx (i + 1) := T.nx_le (by omega) (by omega)
  let R : Ren := ⟨fun l => r.ok l ∨ (T.nx i ≤ l ∧ r1.ok l), fun l => if T.nx i ≤ l ∧ l < T.nx (i + 1) then r1.blk l else r.blk l, fun l => if T.nx i ≤ l ∧ l < T.nx (i + 1) then r1.off l else r.off l, fun l => if T.nx i ≤ l ∧ l < T.nx (i + 1) then r1.cap l else r.cap l⟩
  have hout : ∀ l, r.ok l → ¬ (T.nx i ≤ l ∧ l < T.nx (i + 1)) := fun l hl ⟨g1, g2⟩ => by
    rcases j.okk l hl with h | ⟨q, h1, h2, h3, h4, h5, h6⟩
    · have := T.nx_le hEi (by omega); omega
    · have : q = i := part_dis h1 hlt h5 h6 g1 g2
      subst this
      rw [n.no] at h2; cases h2
  have hR : r.le R := ⟨fun l hl => .inl hl, fun l hl => if_neg (hout l hl), fun l hl => if_neg (hout l hl), fun l hl => if_neg (hout l hl)⟩
  have hlow : ∀ l, l < T.nx i → ¬ (T.nx i ≤ l ∧ l < T.nx (i + 1)) := fun l hl ⟨g, _⟩ => by omega
  have hR1 : r1.le (R.cut (T.nx (i + 1))) := by
    have key : ∀ l, r1.ok l → l < T.nx (i + 1) ∧ ((r.ok l ∧ l < T.nx i) ∨ T.nx i ≤ l) := fun l hl => by
      refine ⟨by rw [hnx]; exact i1.n l hl, ?_⟩
      rcases ad.okn l hl with g | g
      · exact .inl g
      · exact .inr (by rw [hnext] at g; exact g)
    refine ⟨fun l hl => ?_, fun l hl => ?_, fun l hl => ?_, fun l hl => ?_⟩
    · obtain ⟨g1, g2⟩ := key l hl
      refine ⟨?_, g1⟩
      rcases g2 with g2 | g2
      · exact .inl g2.1
      · exact .inr ⟨g2, hl⟩
    · obtain ⟨g1, g2⟩ := key l hl
      show (if T.nx i ≤ l ∧ l < T.nx (i + 1) then r1.blk l else r.blk l) = _
      rcases g2 with g2 | g2
      · rw [if_neg (hlow l g2.2)]; exact (ad.le.blk l g2).symm
      · rw [if_pos ⟨g2, g1⟩]
    · obtain ⟨g1, g2⟩ := key l hl
      show (if T.nx i ≤ l ∧ l < T.nx (i + 1) then r1.off l else r.off l) = _
      rcases g2 with g2 | g2
      · rw [if_neg (hlow l g2.2)]; exact (ad.le.off l g2).symm
      · rw [if_pos ⟨g2, g1⟩]
    · obtain ⟨g1, g2⟩ := key l hl
      show (if T.nx i ≤ l ∧ l < T.nx (i + 1) then r1.cap l else r.cap l) = _
      rcases g2 with g2 | g2
      · rw [if_neg (hlow l g2.2)]; exact (ad.le.cap l g2).symm
      · rw [if_pos ⟨g2, g1⟩]
  have hW : ∀ b, b < W.heap.size → W'.heap[b]? = W.heap[b]? := fun b hb => ad.frame b hb fun l k hl _ hfl => by
    have := (hi.hr.dom l k hl).2; omega
  have hB' : B ≤ W'.heap.size := Nat.le_trans j.b ad.size
  have hDi : ∀ l b, Hp.get (T.D i) l = some b → (T.H i).get l = some b ∧ T.nx i ≤ l ∧ l < T.nx (i + 1) := fun l b h => by
    rw [hD] at h
    obtain ⟨g1, g2⟩ := get_newD _ _ h
    exact ⟨g1, g2, by rw [hnx]; exact i1.n l (i1.hr.dom l b g1)⟩
  have hpart : HR (Hp.get (T.D i)) (R.cut (T.nx (i + 1))) B W' := (i1.hr.sub fun l b h => (hDi l b h).1).mono hR1
  have hpl : ∀ l b, PL T (put L i) l b → (Hp.get (T.D i) l = some b) ∨ PL T L l b := fun l b h => by
    rcases h with ⟨q, h1, h2, h3, h4, h5⟩ | h
    · by_cases e : q = i
      · subst e; exact .inl h5
      · exact .inr (.inl ⟨q, h1, by simpa [put, e] using h2, h3, by rw [hep] at h4; exact h4, h5⟩)
    · rw [hep] at h; exact .inr (.inr h)
  have hplok : ∀ l b, PL T L l b → r.ok l := fun l b h => by
    rcases h with ⟨q, h1, h2, h3, h4, h5⟩ | h
    · exact ((j.part q h1 h2 h3 h4).1.dom l b h5).1
    · exact (j.base.dom l b h).1
  have hnew : ∀ l b, Hp.get (T.D i) l = some b → b.own = true ∧ W.heap.size ≤ R.blk l := fun l b h => by
    obtain ⟨g1, g2, g3⟩ := hDi l b h
    obtain ⟨f1, f2⟩ := ad.fresh l b (by rw [hnext]; exact g2) g1
    refine ⟨f1, ?_⟩
    show _ ≤ (if T.nx i ≤ l ∧ l < T.nx (i + 1) then r1.blk l else r.blk l)
    rw [if_pos ⟨g2, g3⟩]
    rcases f2 with f2 | ⟨l0, b0, e1, _, e3, _⟩
    · exact f2
    · have := (hi.hr.dom l0 b0 e1).2; omega
  refine ⟨R, j.dc' n, ?_, ?_, fun t v q h => ?_, hB', ?_, fun q h1 h2 h3 h4 => ?_, fun l b l' b' h1 o1 h2 o2 e => ?_, fun l hl => ?_, j.le.trans hR, fun l hl => ?_, ad.os.trans j.os, ad.tape.trans j.tape, ad.output.trans j.output, Nat.le_trans j.size ad.size,
    fun b hb hno => (hW b (Nat.lt_of_lt_of_le hb j.size)).trans (j.frame b hb hno), fun l h1 h2 => ?_, fun l b' h1 h2 => ?_, fun l b' h1 h2 => ?_⟩
  · rw [← j.len]; cases o.dst <;> simp [Act.put]
  · rw [← j.defers]; cases o.dst <;> rfl
  · rw [T.slot_put n.lt n.op n.no j.dc t] at h
    split at h
    · rename_i hd
      cases h
      refine ⟨u, ?_, VV.mono hR1 hv⟩
      rw [hd.1]
      simp [Act.put, j.len, hd.2]
    · rename_i hd
      obtain ⟨u', h1, h2⟩ := j.slot t v q h
      refine ⟨u', ?_, VV.mono (hR.cut (Nat.le_refl _)) h2⟩
      cases ho : o.dst with
      | none => exact h1
      | some d =>
        have : ¬ d = t := fun e => hd ⟨by rw [ho, e], by have := (Array.getElem?_eq_some_iff.1 h1).1; rw [j.len] at this; exact this⟩
        simp [Act.put, this, h1]
  · rw [hep]; exact (j.base.keep j.b hW).mono (hR.cut (Nat.le_refl _))
  · by_cases e : q = i
    · subst e
      exact ⟨hpart, fun l b h => (hDi l b h).2.1⟩
    · obtain ⟨g1, g2⟩ := j.part q h1 (by simpa [put, e] using h2) h3 (by rw [hep] at h4; exact h4)
      exact ⟨(g1.keep j.b hW).mono (hR.cut (Nat.le_refl _)), g2⟩
  · rcases hpl l b h1 with g1 | g1 <;> rcases hpl l' b' h2 with g2 | g2
    · exact hpart.inj l b l' b' g1 o1 g2 o2 e
    · have f1 := (hnew l b g1).2
      have f2 := j.pl_lt g2 o2
      rw [e, hR.blk l' (hplok l' b' g2)] at f1
      omega
    · have f1 := (hnew l' b' g2).2
      have f2 := j.pl_lt g1 o1
      rw [← e, hR.blk l (hplok l b g1)] at f1
      omega
    · rw [hR.blk l (hplok l b g1), hR.blk l' (hplok l' b' g2)] at e
      exact j.inj l b l' b' g1 o1 g2 o2 e
  · rw [hep]
    rcases hl with hl | ⟨g1, g2⟩
    · rcases j.okk l hl with h | ⟨q, h1, h2, h3, h4, h5⟩
      · exact .inl h
      · exact .inr ⟨q, h1, by simp [put, h2], h3, h4, h5⟩
    · exact .inr ⟨i, hlt, by simp [put], hk, hEi, g1, by rw [hnx]; exact i1.n l g2⟩
  · rcases hl with hl | ⟨g1, g2⟩
    · exact j.okn l hl
    · exact .inr (by have := T.nx_le (Nat.zero_le i) (by omega); rw [nx0] at this; omega)
  · rw [hep]; exact j.keep l h1 h2
  · rw [hep] at h2; exact j.old l b' h1 h2
  · rcases hpl l b' h2 with g | g
    · obtain ⟨f1, f2⟩ := hnew l b' g
      exact ⟨f1, .inl (Nat.le_trans j.size f2)⟩
    · obtain ⟨f1, f2⟩ := j.fresh l b' h1 g
      refine ⟨f1, ?_⟩
      rw [hR.blk l (hplok l b' g)]
      exact f2

/-- an operation that writes -/
theorem J.write (j : J T r0 B a0 w0 L r a W) {i : Nat} {o : Oper} (n : Next T L i o) (hk : T.k i = 2) (hst : (T.st (i + 1)).hb = (T.H i).m) (hnx : T.nx (i + 1) = (T.H i).next) {h : Heap} (hnext : h.next = T.nx i)
    (hm : ∀ l b, h.get l = some b → PL T L l b) (hm' : ∀ l, l < s0.h.next → h.get l = Hp.get (T.st (T.ep L ops.length)).hb l)
    {u : Value} {W' : World} (hi : Inv h (r.cut (T.nx i)) B W) (hp : Post B fl h (r.cut (T.nx i)) W (T.v i) (T.H i) u W') : ∃ r', J T r0 B a0 w0 (put L i) r' (a.put o.dst u) W' := by
  obtain ⟨r1, i1, hv, ad⟩ := hp
  have hlt := n.lt
  have hep : T.ep (put L i) ops.length = i + 1 := by
    rw [T.ep_tail (i := i + 1) (by omega) fun p h1 h2 h3 => ?_]
    · unfold Tr.ep
      rw [if_pos ⟨by simp [put], hk⟩]
    · have : p ≠ i := by omega
      simp only [put, this, if_false]
      cases hL : L p with
      | false => rfl
      | true => have := (j.behind n (by omega) h2 hL).1 h3; omega
  have h0i : s0.h.next ≤ T.nx i := by have := T.nx_le (Nat.zero_le i) (by omega); rwa [nx0] at this
  have hnn : T.nx i ≤ T.nx (i + 1) := T.nx_le (by omega) (by omega)
  have hok : ∀ l, r.ok l → l < T.nx i := fun l hl => by
    rcases j.okk l hl with h | ⟨q, h1, h2, h3, h4, h5, h6⟩
    · have : T.ep L ops.length ≤ i := by rw [j.epoch n (by omega)]; exact T.ep_le _ _
      have := T.nx_le this (by omega); omega
    · rcases Nat.lt_trichotomy q i with g | g | g
      · have := T.nx_le (show q + 1 ≤ i by omega) (by omega); omega
      · subst g; rw [n.no] at h2; cases h2
      · have := (j.behind n g h1 h2).2 hk; omega
  have hR : r.le r1 := ⟨fun l hl => ad.le.n l ⟨hl, hok l hl⟩, fun l hl => ad.le.blk l ⟨hl, hok l hl⟩, fun l hl => ad.le.off l ⟨hl, hok l hl⟩, fun l hl => ad.le.cap l ⟨hl, hok l hl⟩⟩
  have hcut : r1.le (r1.cut (T.nx (i + 1))) := ⟨fun l hl => ⟨hl, by rw [hnx]; exact i1.n l hl⟩, fun _ _ => rfl, fun _ _ => rfl, fun _ _ => rfl⟩
  have hnone : ∀ q, q < ops.length → put L i q = true → T.k q = 1 → i + 1 ≤ q → False := fun q h1 h2 h3 h4 => by
    have : q ≠ i := by omega
    simp only [put, this, if_false] at h2
    have := (j.behind n (by omega) h1 h2).2 hk; omega
  have hpl : ∀ l b, PL T (put L i) l b → (T.H i).get l = some b := fun l b h => by
    rcases h with ⟨q, h1, h2, h3, h4, h5⟩ | h
    · rw [hep] at h4; exact (hnone q h1 h2 h3 h4).elim
    · rw [hep, hst] at h; exact h
  refine ⟨r1, j.dc' n, ?_, ?_, fun t v q h => ?_, i1.b, ?_, fun q h1 h2 h3 h4 => ?_, fun l b l' b' h1 o1 h2 o2 e => i1.hr.inj l b l' b' (hpl l b h1) o1 (hpl l' b' h2) o2 e, fun l hl => ?_, j.le.trans hR, fun l hl => ?_, ad.os.trans j.os, ad.tape.trans j.tape, ad.output.trans j.output, Nat.le_trans j.size ad.size,
    fun b hb hno => ?_, fun l h1 h2 => ?_, fun l b' h1 h2 => ?_, fun l b' h1 h2 => ?_⟩
  · rw [← j.len]; cases o.dst <;> simp [Act.put]
  · rw [← j.defers]; cases o.dst <;> rfl
  · rw [T.slot_put n.lt n.op n.no j.dc t] at h
    split at h
    · rename_i hd
      cases h
      refine ⟨u, ?_, VV.mono hcut hv⟩
      rw [hd.1]
      simp [Act.put, j.len, hd.2]
    · rename_i hd
      obtain ⟨u', h1, h2⟩ := j.slot t v q h
      refine ⟨u', ?_, VV.mono (hR.cut (Nat.le_refl _)) h2⟩
      cases ho : o.dst with
      | none => exact h1
      | some d =>
        have : ¬ d = t := fun e => hd ⟨by rw [ho, e], by have := (Array.getElem?_eq_some_iff.1 h1).1; rw [j.len] at this; exact this⟩
        simp [Act.put, this, h1]
  · rw [hep, hst]; exact i1.hr.mono hcut
  · rw [hep] at h4; exact (hnone q h1 h2 h3 h4).elim
  · rw [hep, hnx]; exact .inl (i1.n l hl)
  · rcases ad.okn l hl with g | g
    · exact j.okn l g.1
    · exact .inr (by omega)
  · rw [ad.frame b (Nat.lt_of_lt_of_le hb j.size) fun l k hl ho hfl he => ?_, j.frame b hb hno]
    have he : r.blk l = b := he
    by_cases hl0 : l < s0.h.next
    · rw [hm' l hl0] at hl
      obtain ⟨c, hc, oc⟩ := j.old l k hl0 hl
      have hr : r.blk l = r0.blk l := by
        refine j.le.blk l ?_
        rcases j.okn l (j.base.dom l k hl).1 with g | g
        · exact g
        · omega
      exact hno l c hc (oc.trans ho) hfl (by rw [← hr]; exact he)
    · obtain ⟨f1, f2⟩ := j.fresh l k (Nat.le_of_not_lt hl0) (hm l k hl)
      rcases f2 with f2 | ⟨l0, b0, e1, e2, e3, e4⟩
      · omega
      · exact hno l0 b0 e1 e2 e3 (by rw [← e4]; exact he)
  · rw [hep, hst]
    have := ad.keep l (by omega) h2
    show (T.H i).get l = _
    rw [this, hm' l h1]
    exact j.keep l h1 h2
  · rw [hep, hst] at h2
    obtain ⟨c, hc, oc⟩ := ad.old l b' (by omega) h2
    rw [hm' l h1] at hc
    obtain ⟨d, hd, od⟩ := j.old l c h1 hc
    exact ⟨d, hd, od.trans oc⟩
  · have hg := hpl l b' h2
    by_cases hl : l < h.next
    · obtain ⟨c, hc, oc⟩ := ad.old l b' hl hg
      obtain ⟨f1, f2⟩ := j.fresh l c h1 (hm l c hc)
      refine ⟨oc ▸ f1, ?_⟩
      rw [hR.blk l (hi.hr.dom l c hc).1]
      exact f2
    · obtain ⟨f1, f2⟩ := ad.fresh l b' (Nat.le_of_not_lt hl) hg
      refine ⟨f1, ?_⟩
      rcases f2 with f2 | ⟨l0, b0, e1, e2, e3, e4⟩
      · exact .inl (Nat.le_trans j.size f2)
      · have e4 : r1.blk l = r.blk l0 := e4
        by_cases hl0 : l0 < s0.h.next
        · rw [hm' l0 hl0] at e1
          obtain ⟨c, hc, oc⟩ := j.old l0 b0 hl0 e1
          refine .inr ⟨l0, c, hc, oc.trans e2, e3, ?_⟩
          rw [e4]
          refine j.le.blk l0 ?_
          rcases j.okn l0 (j.base.dom l0 b0 e1).1 with g | g
          · exact g
          · omega
        · obtain ⟨f1', f2'⟩ := j.fresh l0 b0 (Nat.le_of_not_lt hl0) (hm l0 b0 e1)
          rw [e4]
          exact f2'

theorem all2_of_nth {α β : Type} {R : α → β → Prop} : ∀ {xs : List α} {ys : List β}, xs.length = ys.length → (∀ (t : Nat) x y, xs[t]? = some x → ys[t]? = some y → R x y) → All2 R xs ys
  | [], [], _, _ => trivial
  | [], _ :: _, h, _ => by simp at h
  | _ :: _, [], h, _ => by simp at h
  | x :: xs, y :: ys, h, k => ⟨k 0 x y rfl rfl, all2_of_nth (by simpa using h) fun t a b h1 h2 => k (t + 1) a b (by simpa using h1) (by simpa using h2)⟩
theorem rng (N t : Nat) : (List.range N)[t]? = if t < N then some t else none := by
  split
  · exact List.getElem?_range ‹_›
  · exact List.getElem?_eq_none (by simp; omega)
/-- the slots that an operation looks at, the others struck -/
theorem J.masked (j : J T r0 B a0 w0 L r a W) {i : Nat} {o : Oper} (n : Next T L i o) : ∃ fr' a', FR (r.cut (T.nx i)) fr' a' ∧ (∀ t ∈ lookV ops o, nth (T.st i).fr t = nth fr' t) ∧ (∀ t ∈ lookV ops o, a.tmps[t]? = a'.tmps[t]?) := by
  have hlt := n.lt
  obtain ⟨hf1, hf2⟩ := T.frame i (by omega)
  let N := s0.fr.length
  refine ⟨(List.range N).map fun t => if t ∈ lookV ops o then (nth (T.st i).fr t).getD undef else undef, { a with tmps := ((List.range N).map fun t => if t ∈ lookV ops o then (a.tmps[t]?).getD Go.undef else Go.undef).toArray }, ?_, fun t ht => ?_, fun t ht => ?_⟩
  · refine all2_of_nth (by simp) fun t x y hx hy => ?_
    simp only [List.getElem?_map, Option.map_eq_some_iff] at hx hy
    obtain ⟨t', ht', rfl⟩ := hx
    obtain ⟨t'', ht'', rfl⟩ := hy
    rw [ht'] at ht''
    cases ht''
    have htt : t' = t ∧ t < N := by
      rw [rng] at ht'
      split at ht'
      · cases ht'; exact ⟨rfl, ‹_›⟩
      · cases ht'
    obtain ⟨rfl, htN⟩ := htt
    by_cases hl : t' ∈ lookV ops o
    · rw [if_pos hl, if_pos hl]
      have hn : ∃ v, nth (T.st i).fr t' = some v := by
        rw [nth_eq]
        exact ⟨_, List.getElem?_eq_getElem (by rw [hf1]; exact htN)⟩
      obtain ⟨v, hv⟩ := hn
      rw [hv]
      rw [hf2 t', Option.map_eq_some_iff] at hv
      obtain ⟨⟨v', q⟩, hs, rfl⟩ := hv
      have hq := T.slot_scope (by omega) hs
      rw [← T.slot_look hlt n.op n.no j.dc n.all hl] at hs
      obtain ⟨u, hu, hvv⟩ := j.slot t' v' q hs
      rw [hu]
      exact VV.mono ((Ren.le.refl r).cut hq) hvv
    · rw [if_neg hl, if_neg hl]
      exact VS.undef
  · rw [nth_eq, nth_eq, List.getElem?_map]
    by_cases hN : t < N
    · rw [rng, if_pos hN]
      simp only [Option.map_some, if_pos ht, nth_eq]
      rw [List.getElem?_eq_getElem (by rw [hf1]; exact hN)]
      rfl
    · rw [rng, if_neg hN, List.getElem?_eq_none (by rw [hf1]; exact Nat.le_of_not_lt hN)]
      rfl
  · simp only [List.getElem?_toArray, List.getElem?_map]
    by_cases hN : t < N
    · rw [rng, if_pos hN]
      simp only [Option.map_some, if_pos ht]
      rw [Array.getElem?_eq_getElem (by rw [j.len]; exact hN)]
      rfl
    · rw [rng, if_neg hN, Array.getElem?_eq_none (by rw [j.len]; exact Nat.le_of_not_lt hN)]
      rfl
theorem eval_look {o : Oper} {a a' : Act} (h : ∀ t ∈ lookV ops o, a.tmps[t]? = a'.tmps[t]?) : ∀ x ∈ o.op.operands, a.eval x = a'.eval x := by
  intro x hx
  cases x with
  | tmp t =>
    have := h t (look_op (by simpa using hx))
    simp only [Act.eval, Array.getD_eq_getD_getElem?, this]
  | const v => rfl
  | global g => rfl
  | func f => rfl
theorem wanted_look' {opsA : Array Oper} (hA : opsA.toList = ops) {o : Oper} {a a' : Act} (h : ∀ t ∈ lookV ops o, a.tmps[t]? = a'.tmps[t]?) : Region.wanted o (yielded opsA a.tmps) = Region.wanted o (yielded opsA a'.tmps) := by
  unfold Region.wanted
  cases hg : o.guard with
  | none => rfl
  | some g =>
    obtain ⟨j, b⟩ := g
    have : yielded opsA a.tmps j = yielded opsA a'.tmps j := by
      unfold yielded
      cases hj : opsA[j]? with
      | none => rfl
      | some q =>
        simp only [Option.bind_some]
        cases hd : q.dst with
        | none => rfl
        | some d =>
          simp only [Option.bind_some]
          rw [h d (look_guard hg (by rw [nth_eq, ← hA, Array.getElem?_toList]; exact hj) hd)]
    simp only [this]
theorem OpR.congr {o : Oper} {a a' : Act} {W : World} {K : Value → World → Prop} (hs : ∀ cs b, o.op ≠ .select cs b) (h : ∀ x ∈ o.op.operands, a.eval x = a'.eval x) (k : OpR P o a' W K) : OpR P o a W K := by
  unfold OpR at *
  rw [execOp_congr o hs h]
  exact k
theorem how_select {C : Ctx} {fr : Fr} {h hw : Heap} {fl : Nat} {o : Oper} {w : How} (hh : how C fr h hw fl o.op = w) (hw : w ≠ .p none) : ∀ cs b, o.op ≠ .select cs b := by
  intro cs b e
  rw [e] at hh
  exact hw hh.symm

theorem VS.narrow {r0 r r' : Ren} (h0 : r0.le r) (h' : r'.le r) (hn : ∀ l, r0.ok l → r'.ok l) {x : S} {u v : Value} (k0 : VS r0 x u) (k : VS r x v) : VS r' x v := by
  cases x with
  | ptr l o =>
    have g := hn l k0.1
    exact ⟨g, by rw [← h'.at g]; exact k.2⟩
  | px l o n i =>
    have g := hn l k0.1
    exact ⟨g, k.2.1, k.2.2.1, by rw [← h'.at g]; exact k.2.2.2⟩
  | sl l o n z c =>
    cases c with
    | none =>
      have g := hn l k0.1
      exact ⟨g, ⟨k.2.1.1, by rw [← h'.cap l g]; exact k.2.1.2⟩, by rw [← h'.cap l g]; exact k.2.2.1, by rw [← h'.cap l g, ← h'.at g]; exact k.2.2.2⟩
    | some c =>
      have g := hn l k0.1
      exact ⟨g, k.2.1, k.2.2.1, by rw [← h'.at g]; exact k.2.2.2⟩
  | fn f cs =>
    refine ⟨fun p hp => hn _ (k0.1 p hp), ?_⟩
    rw [k.2]
    congr 2
    exact List.map_congr_left fun p hp => by rw [h'.at (hn _ (k0.1 p hp))]
  | _ => exact k
theorem VSs.narrow {r0 r r' : Ren} (h0 : r0.le r) (h' : r'.le r) (hn : ∀ l, r0.ok l → r'.ok l) : ∀ {xs : List S} {us vs : List Value}, (∀ x ∈ xs, ∃ u, VS r0 x u) → All2 (VS r) xs vs → All2 (VS r') xs vs
  | [], _, [], _, _ => trivial
  | x :: xs, us, v :: vs, k0, k => by
    obtain ⟨u, hu⟩ := k0 x (List.mem_cons_self ..)
    exact ⟨VS.narrow h0 h' hn hu k.1, VSs.narrow (us := us) h0 h' hn (fun x hx => k0 x (List.mem_cons_of_mem _ hx)) k.2⟩
  | [], _, _ :: _, _, h => h.elim
  | _ :: _, _, [], _, h => h.elim
theorem VA.narrow {r0 r r' : Ren} (h0 : r0.le r) (h' : r'.le r) (hn : ∀ l, r0.ok l → r'.ok l) {x : A} {v : Value} (k0 : ∀ s ∈ x.cells, ∃ u, VS r0 s u) (k : VA r x v) : VA r' x v := by
  cases x with
  | s x =>
    obtain ⟨u, hu⟩ := k0 x (by simp [A.cells])
    exact VS.narrow h0 h' hn hu k
  | g l =>
    obtain ⟨vs, e, a⟩ := k
    exact ⟨vs, e, VSs.narrow (us := []) h0 h' hn k0 a⟩
theorem J.step (hty : TyOk P C.ty) (hC : CtxOk P C) (i0 : Inv s0.h r0 B w0) (hq : ∀ i l, i < ops.length → T.q i = some l → ∀ e, e ≤ ops.length → Hp.get (T.st e).hb l = Hp.get s0.h.m l) {opsA : Array Oper} (hA : opsA.toList = ops) {Q : Exit → Act → World → Prop} (j : J T r0 B a0 w0 L r a W) {i : Nat} {o : Oper} (n : Next T L i o) :
    wpOp P opsA Q i (fun a' W' => ∃ r', J T r0 B a0 w0 (put L i) r' a' W') a W := by
  obtain ⟨fr', a', hfr, hl1, hl2⟩ := j.masked n
  have hlt := n.lt
  have hs := T.step i o n.op
  have hev := ev_look (ops := ops) hl1
  have hae := eval_look (ops := ops) hl2
  have hwant : Region.wanted o (yielded opsA a.tmps) = wantedV ops o (T.st i).fr := by
    have hgo : guardOk opsA.toList o fr' = true := by rw [hA, ← guard_look' hl1]; exact hs.guard
    rw [wanted_look' hA hl2, ← wanted_ok hfr opsA o hgo, hA]
    exact (wanted_look hl1).symm
  have hopA : opsA[i]? = some o := by rw [← Array.getElem?_toList, hA]; exact n.op
  have hm : T.m i = maskOf (T.st i).an o := by simp [Tr.m, n.op]
  unfold wpOp
  rw [hopA]
  simp only []
  rw [hwant]
  rcases hs.kind with ⟨hk, _, _, _, hnx, hc⟩ | ⟨hk, hD, hhb, hds, hnx, hw, w, hh, hc⟩ | ⟨hk, hD, hhb, hds, hnx, hw, w, hh, hc⟩
  · have hnx' : T.nx (i + 1) = T.nx i := hnx
    rcases hc with ⟨hw, hv⟩ | ⟨hw, h1, h2, f1, hh⟩ | ⟨hw, l, hql, t, x, Ty, off, cs, y, hop, hT, hp, hcs, hy, hv⟩
    · rw [hw]
      simp only [Bool.false_eq_true, if_false]
      exact ⟨r, j.free n hk (by rw [hv]; exact VS.undef)⟩
    case inr.inr =>
      rw [hw]
      simp only [if_true]
      have mx : x ∈ o.op.operands := by rw [hop]; simp [Op.operands]
      rw [evPtr_congr (hev x mx)] at hp
      obtain ⟨e1, e2⟩ := evPtr_ok hfr hp
      have e2' : a.eval x = .pointer (some ((r.cut (T.nx (T.ep L ops.length))).at l off)) := (hae x mx).trans e2
      have hbI : Inv ⟨(T.st (T.ep L ops.length)).hb, T.nx (T.ep L ops.length)⟩ (r.cut (T.nx (T.ep L ops.length))) B W := ⟨fun l hl => hl.2, j.b, j.base⟩
      have hread : Heap.read ⟨(T.st (T.ep L ops.length)).hb, T.nx (T.ep L ops.length)⟩ l off Ty.size = some cs := by
        unfold Heap.read at hcs ⊢
        show ob (Hp.get (T.st (T.ep L ops.length)).hb l) _ = _
        rw [hq i l hlt hql _ (T.ep_le _ _)]
        exact hcs
      obtain ⟨z, hz, hz'⟩ := load_ok (P := P) hty hbI hT hread hy
      have hcells : ∀ s ∈ y.cells, ∃ u, VS r0 s u := by
        obtain ⟨b, hb, hex⟩ := ob_some hcs
        obtain ⟨_, e4⟩ := ext_eq hex
        intro s hs
        have hyc : y.cells = cs := by
          unfold Go.Proofs.YtaamdiknefodgaaDoor.Am.Ty.mk' at hy
          cases hg : Ty.d.agg <;> rw [hg] at hy <;> simp only [cond_true, cond_false] at hy
          · split at hy <;> cases hy
            rfl
          · cases hy; rfl
        rw [hyc, e4] at hs
        have hs' := List.mem_of_mem_drop (List.mem_of_mem_take hs)
        obtain ⟨k, hk'⟩ := List.getElem?_of_mem hs'
        obtain ⟨u, _, hu⟩ := i0.hr.cell hb (i := k) (x := s) (by rw [nth_eq]; exact hk')
        exact ⟨u, hu⟩
      refine .inl ((OpR.val (P := P) (o := o) (a := a) (w := W) (w' := W) (K := fun u W' => u = z ∧ W' = W) (v := z) (by simp [execOp, hop, e2', hz]) ⟨rfl, rfl⟩).wp fun u W' ⟨h1, h2⟩ => ?_)
      subst h1; subst h2
      have h0n : s0.h.next ≤ T.nx i := by have := T.nx_le (Nat.zero_le i) (Nat.le_of_lt hlt); rw [nx0] at this; exact this
      refine ⟨r, j.free n hk ?_⟩
      rw [hnx', hv]
      exact VA.narrow (r := r) j.le (r.cut_le _) (fun l hl => ⟨j.le.n l hl, Nat.lt_of_lt_of_le (i0.n l hl) h0n⟩) hcells (VA.mono (r.cut_le _) hz')
    · rw [hw]
      simp only [if_true]
      have hsel := how_select hh (by simp)
      rw [how_congr hev] at hh
      obtain ⟨u, hu, hvv⟩ := how_pure (w := W) hty hC.tb j.base.z hfr hh
      refine .inl ((OpR.congr hsel hae (OpR.val (K := fun z W' => z = u ∧ W' = W) hu ⟨rfl, rfl⟩)).wp fun z W' ⟨h1, h2⟩ => ?_)
      subst h1; subst h2
      exact ⟨r, j.free n hk (by rw [hnx']; exact hvv)⟩
  · rw [hw]
    simp only [if_true]
    obtain ⟨hdl, hdg⟩ := T.ds i (by omega)
    have hgiven := j.given n (by omega) (m := Heap.get ⟨selD (T.m i) 0 (T.st i).ds ++ (T.st i).hb, T.nx i⟩) fun l b hb => by
      have hb : Hp.get (selD (T.m i) 0 (T.st i).ds ++ (T.st i).hb) l = some b := hb
      rw [Hp.get_append] at hb
      cases hq : Hp.get (selD (T.m i) 0 (T.st i).ds) l with
      | none => rw [hq] at hb; rw [T.hb i (by omega)] at hb; exact .inr hb
      | some x =>
        rw [hq] at hb
        cases hb
        obtain ⟨q, d, g1, g2, g3⟩ := get_selD _ _ _ hq
        have hqi : q < i := by have := (List.getElem?_eq_some_iff.1 g1).1; omega
        rw [hdg q hqi] at g1
        rw [Nat.zero_add] at g2
        cases g1
        split at g3
        · exact .inl ⟨q, hqi, n.all q g2, ‹_›, g3⟩
        · cases g3
    have hinv : Inv ⟨selD (T.m i) 0 (T.st i).ds ++ (T.st i).hb, T.nx i⟩ (r.cut (T.nx i)) B W := ⟨fun l hl => hl.2, j.b, hgiven.2⟩
    have hsel := how_select hh (by rcases hc with h | ⟨_, h⟩ | ⟨_, _, h, _⟩ <;> rw [h] <;> simp)
    have hmem := hh
    rw [how_congr hev, ← hm] at hh
    have hop : OpR P o a' W (Post B (T.nx i) ⟨selD (T.m i) 0 (T.st i).ds ++ (T.st i).hb, T.nx i⟩ (r.cut (T.nx i)) W (T.v i) (T.H i)) := by
      rcases hc with h | ⟨x, h⟩ | ⟨f, as, h, hcall⟩
      · rw [h] at hh; exact quiet_ok hty hinv hfr hh _
      · rw [h] at hh; exact quietQW_ok hty hinv hfr hh _
      · rw [h] at hh hmem
        obtain ⟨c1, c2⟩ := how_c_mem hmem
        rw [callOp_congr (hev f c1) (fun x hx => hev x (c2 x hx)), ← hm] at hcall
        exact call_ok hC hinv hfr hh hcall
    refine .inl ((OpR.congr hsel hae hop).wp fun u W' hp => ?_)
    exact j.quiet n hk hD hnx rfl hinv hp
  · rw [hw]
    simp only [if_true]
    obtain ⟨hdl, hdg⟩ := T.ds i (by omega)
    have he := j.epoch n (by omega)
    have hfl : ∀ l b, Hp.get (T.st i).ds.flatten l = some b → ∃ q, q < i ∧ L q = true ∧ T.ep every i ≤ q ∧ Hp.get (T.D q) l = some b := fun l b hq => by
      obtain ⟨q, d, g1, g3⟩ := get_flatten _ hq
      have hqi : q < i := by have := (List.getElem?_eq_some_iff.1 g1).1; omega
      rw [hdg q hqi] at g1
      cases g1
      split at g3
      · refine ⟨q, hqi, ?_, ‹_›, g3⟩
        rcases J.ahead n hqi with g | g
        · exact g
        · have hq0 := g.1 hk
          rw [T.D_nil (by omega) (by omega)] at g3
          cases g3
      · cases g3
    have hgiven := j.given n (by omega) (m := Heap.get ⟨(T.st i).ds.flatten ++ (T.st i).hb, T.nx i⟩) fun l b hb => by
      have hb : Hp.get ((T.st i).ds.flatten ++ (T.st i).hb) l = some b := hb
      rw [Hp.get_append] at hb
      cases hq : Hp.get (T.st i).ds.flatten l with
      | none => rw [hq] at hb; rw [T.hb i (by omega)] at hb; exact .inr hb
      | some x =>
        rw [hq] at hb
        cases hb
        exact .inl (hfl l b hq)
    have hinv : Inv ⟨(T.st i).ds.flatten ++ (T.st i).hb, T.nx i⟩ (r.cut (T.nx i)) B W := ⟨fun l hl => hl.2, j.b, hgiven.2⟩
    have hsel := how_select hh (by rcases hc with h | ⟨_, h⟩ | ⟨_, _, h, _⟩ <;> rw [h] <;> simp)
    have hmem := hh
    rw [how_congr hev, ← hm] at hh
    have hop : OpR P o a' W (Post B fl ⟨(T.st i).ds.flatten ++ (T.st i).hb, T.nx i⟩ (r.cut (T.nx i)) W (T.v i) (T.H i)) := by
      rcases hc with h | ⟨x, h⟩ | ⟨f, as, h, hcall⟩
      · rw [h] at hh; exact write_ok hty hinv hfr hh
      · rw [h] at hh; exact writeQW_ok hty hinv hfr hh
      · rw [h] at hh hmem
        obtain ⟨c1, c2⟩ := how_c_mem hmem
        rw [callOp_congr (hev f c1) (fun x hx => hev x (c2 x hx))] at hcall
        exact call_ok hC hinv hfr hh hcall
    refine .inl ((OpR.congr hsel hae hop).wp fun u W' hp => ?_)
    refine j.write n hk hhb hnx rfl hgiven.1 (fun l hl => ?_) hinv hp
    show Hp.get ((T.st i).ds.flatten ++ (T.st i).hb) l = _
    rw [Hp.get_append]
    cases hq : Hp.get (T.st i).ds.flatten l with
    | none => rw [T.hb i (by omega), he]
    | some x =>
      obtain ⟨q, hqi, g1, g2, g3⟩ := hfl l x hq
      have hq1 : T.k q = 1 := by
        have : T.k q = 1 ∨ T.k q ≠ 1 := by omega
        rcases this with g | g
        · exact g
        · rw [T.D_nil (by omega) g] at g3; cases g3
      have := (j.part q (by omega) g1 hq1 (by rw [he]; exact g2)).2 l x g3
      have h0 := T.nx_le (Nat.zero_le q) (by omega)
      rw [nx0] at h0
      omega

theorem listed_set {listed : Array Bool} {i : Nat} (hi : i < listed.size) : (fun j => (listed.setIfInBounds i true).getD j false) = put (fun j => listed.getD j false) i := by
  funext j
  simp only [put, Array.getD_eq_getD_getElem?, Array.getElem?_setIfInBounds]
  by_cases e : i = j
  · subst e; simp [hi]
  · have : ¬ j = i := fun h => e h.symm
    simp [e, this]
theorem count_set (l : List Bool) (i : Nat) (h : l[i]? = some false) : (l.set i true).count false + 1 = l.count false := by
  induction l generalizing i with
  | nil => simp at h
  | cons x l ih =>
    cases i with
    | zero => simp at h; subst h; simp
    | succ i =>
      have := ih i (by simpa using h)
      simp only [List.set_cons_succ, List.count_cons]
      omega
theorem wpAny_ok (hty : TyOk P C.ty) (hC : CtxOk P C) (i0 : Inv s0.h r0 B w0) (hfq : ∀ i l, i < ops.length → T.q i = some l → ∀ e, e ≤ ops.length → Hp.get (T.st e).hb l = Hp.get s0.h.m l) {opsA : Array Oper} (hA : opsA.toList = ops) {Q : Exit → Act → World → Prop}
    (hq : ∀ r' a' W', J T r0 B a0 w0 every r' a' W' → Q .normal a' W') : ∀ (fuel : Nat) (listed : Array Bool) (r : Ren) (a : Act) (W : World), listed.size = ops.length → listed.toList.count false ≤ fuel → J T r0 B a0 w0 (fun j => listed.getD j false) r a W →
    wpAny P .any opsA Q fuel listed a W := by
  have hsz : opsA.size = ops.length := by rw [← hA]; simp
  -- when nothing is left to do, all is done
  have hend : ∀ (listed : Array Bool) (r : Ren) (a : Act) (W : World), listed.size = ops.length → (∀ i, i < ops.length → listed[i]? = some true) → J T r0 B a0 w0 (fun j => listed.getD j false) r a W → Q .normal a W := by
    intro listed r a W hl hall j
    have hL : ∀ i, i < ops.length → listed.getD i false = true := fun i hi => by simp [Array.getD_eq_getD_getElem?, hall i hi]
    have hep : T.ep (fun j => listed.getD j false) ops.length = T.ep every ops.length := T.ep_congr fun p hp _ => hL p hp
    have hslot : ∀ n, n ≤ ops.length → ∀ t, T.slot (fun j => listed.getD j false) n t = T.slot every n t := by
      intro n
      induction n with
      | zero => intro _ t; rfl
      | succ n ih =>
        intro hn t
        unfold Tr.slot
        rw [ih (by omega) t]
        simp only [hL n (by omega), every]
    have hpl : ∀ l b, PL T every l b → PL T (fun j => listed.getD j false) l b := fun l b h => by
      rcases h with ⟨q, h1, h2, h3, h4, h5⟩ | h
      · exact .inl ⟨q, h1, hL q h1, h3, by rw [hep]; exact h4, h5⟩
      · exact .inr (by rw [hep]; exact h)
    refine hq r a W ⟨fun p q _ hp hm => rfl, j.len, j.defers, fun t v q h => j.slot t v q (by rw [hslot _ (Nat.le_refl _)]; exact h), j.b, by rw [← hep]; exact j.base, fun q h1 _ h3 h4 => j.part q h1 (hL q h1) h3 (by rw [hep]; exact h4),
      fun l b l' b' h1 o1 h2 o2 e => j.inj l b l' b' (hpl l b h1) o1 (hpl l' b' h2) o2 e, fun l hl => ?_, j.le, j.okn, j.os, j.tape, j.output, j.size, j.frame, by rw [← hep]; exact j.keep, by rw [← hep]; exact j.old, fun l b' h1 h2 => j.fresh l b' h1 (hpl l b' h2)⟩
    rcases j.okk l hl with h | ⟨q, h1, _, h3, h4, h5⟩
    · rw [← hep]; exact .inl h
    · exact .inr ⟨q, h1, rfl, h3, by rw [← hep]; exact h4, h5⟩
  have hnext : ∀ (listed : Array Bool), listed.size = ops.length → ∀ i, i ∈ Region.ready .any opsA listed → (∀ p q, listed.getD p false = true → p < ops.length → Nat.testBit (T.m p) q = true → listed.getD q false = true) →
      ∃ o, Next T (fun j => listed.getD j false) i o ∧ listed[i]? = some false := by
    intro listed hl i hi hdc
    obtain ⟨h0, o, ho, hed⟩ := mem_ready.1 hi
    have hop : ops[i]? = some o := by rw [← hA, Array.getElem?_toList]; exact ho
    have hlt : i < ops.length := (List.getElem?_eq_some_iff.1 hop).1
    have hlf : listed[i]? = some false := by
      have : i < listed.size := by omega
      simp [Array.getD_eq_getD_getElem?, Array.getElem?_eq_getElem this] at h0
      rw [Array.getElem?_eq_getElem this, h0]
    refine ⟨o, ⟨hlt, hop, by simp [Array.getD_eq_getD_getElem?, hlf], fun q hq => ?_⟩, hlf⟩
    have hm : T.m i = maskOf (T.st i).an o := by simp [Tr.m, hop]
    rw [hm, mask_spec] at hq
    obtain ⟨e, he, hb, hq⟩ := hq
    have hed' := hed e (by simpa using he) hb
    rcases hq with rfl | hq
    · exact hed'
    · have hsi := (T.step i o hop).edges
      have hei : e.on < i := by
        unfold edgesOk at hsi
        have := List.all_eq_true.1 hsi e he
        rw [hb] at this
        have h2 : Nat.blt e.on (T.st i).os.length = true := by simpa using this
        rw [T.os i (by omega)] at h2
        have h3 : e.on + 1 ≤ (ops.take i).length := Nat.le_of_ble_eq_true h2
        rw [List.length_take] at h3
        omega
      rw [nth_eq, (T.an i (by omega)).2 e.on hei] at hq
      exact hdc e.on q hed' (by omega) hq
  intro fuel
  induction fuel with
  | zero =>
    intro listed r a W hl hc j
    have hall : ∀ i, i < ops.length → listed[i]? = some true := fun i hi => by
      have hi' : i < listed.size := by omega
      rw [Array.getElem?_eq_getElem hi']
      cases hb : listed[i] with
      | true => rfl
      | false =>
        have h1 : listed.toList[i]? = some false := by rw [Array.getElem?_toList, Array.getElem?_eq_getElem hi', hb]
        have := count_set listed.toList i h1
        omega
    refine ⟨?_, hend listed r a W hl hall j⟩
    cases hr : Region.ready .any opsA listed with
    | nil => rfl
    | cons i rs =>
      obtain ⟨o, n, hlf⟩ := hnext listed hl i (by rw [hr]; simp) j.dc
      rw [hall i n.lt] at hlf
      cases hlf
  | succ fuel ih =>
    intro listed r a W hl hc j
    refine ⟨fun hr => ?_, fun i hi => ?_⟩
    · -- the first one that is not done may come
      have hall : ∀ k i, i < k → i < ops.length → listed[i]? = some true := by
        intro k
        induction k with
        | zero => intro i h; omega
        | succ k ihk =>
          intro i hik hi
          by_cases e : i < k
          · exact ihk i e hi
          · have hi' : i < listed.size := by omega
            rw [Array.getElem?_eq_getElem hi']
            cases hb : listed[i] with
            | true => rfl
            | false =>
              exfalso
              have ho : ops[i]? = some ops[i] := List.getElem?_eq_getElem hi
              have : i ∈ Region.ready .any opsA listed := mem_ready.2 ⟨by simp [Array.getD_eq_getD_getElem?, Array.getElem?_eq_getElem hi', hb], ops[i], by rw [← Array.getElem?_toList, hA]; exact ho, fun e he hbe => by
                have hsi := (T.step i ops[i] ho).edges
                unfold edgesOk at hsi
                have := List.all_eq_true.1 hsi e (by simpa using he)
                rw [hbe] at this
                have h2 : Nat.blt e.on (T.st i).os.length = true := by simpa using this
                rw [T.os i (by omega)] at h2
                have h3 : e.on + 1 ≤ (ops.take i).length := Nat.le_of_ble_eq_true h2
                rw [List.length_take] at h3
                simp [Array.getD_eq_getD_getElem?, ihk e.on (by omega) (by omega)]⟩
              rw [hr] at this
              cases this
      exact hend listed r a W hl (fun i hi => hall (i + 1) i (by omega) hi) j
    · obtain ⟨o, n, hlf⟩ := hnext listed hl i hi j.dc
      refine wpOp_mono (fun a' W' ⟨r', j'⟩ => ?_) (j.step hty hC i0 hfq hA (Q := Q) n)
      have hi' : i < listed.size := by have := n.lt; omega
      refine ih _ r' a' W' (by simpa using hl) ?_ (by rw [listed_set hi']; exact j')
      have := count_set listed.toList i (by rw [Array.getElem?_toList]; exact hlf)
      rw [Array.toList_setIfInBounds]
      omega

theorem region_trace_ok (hty : TyOk P C.ty) (hC : CtxOk P C) (hm : P.follows .mixedOrders = true) {opsA : Array Oper} {id : Nat} {Q : Exit → Act → World → Prop} {B : Nat} {s : St} {r : Ren} {a : Act} {w : World} (hr : Rel s r B a w) {σ : RS}
    (T : Tr C fl opsA.toList s.fr s.h) (hT : T.st opsA.toList.length = σ) (hfq : ∀ i l, i < opsA.toList.length → T.q i = some l → ∀ e, e ≤ opsA.toList.length → Hp.get (T.st e).hb l = Hp.get s.h.m l)
    (hq : ∀ r' a' w', Rel ⟨σ.fr, ⟨σ.ds.flatten ++ σ.hb, σ.nx⟩⟩ r' B a' w' → Adv fl s.h r w ⟨σ.ds.flatten ++ σ.hb, σ.nx⟩ r' w' → a'.defers = a.defers → Q .normal a' w') : (Code.region id opsA true).wp P Q a w := by
  refine wp_region_any hm (wpAny_ok (T := T) (r0 := r) (B := B) (a0 := a) (w0 := w) hty hC hr.i hfq rfl (fun r' a' W' j => ?_) _ _ r a w.drew (by simp) (by simp) ?_)
  · -- all is done: the machine's end
    have hn : opsA.toList.length ≤ opsA.toList.length := Nat.le_refl _
    obtain ⟨hdl, hdg⟩ := T.ds _ hn
    obtain ⟨hf1, hf2⟩ := T.frame _ hn
    rw [hT] at hdl hdg hf1 hf2
    have hhb : σ.hb = (T.st (T.ep every opsA.toList.length)).hb := by rw [← hT]; exact T.hb _ hn
    have hnx : T.nx opsA.toList.length = σ.nx := by show (T.st opsA.toList.length).nx = σ.nx; rw [hT]
    have hpart : ∀ q d l b, σ.ds[q]? = some d → Hp.get d l = some b → T.ep every opsA.toList.length ≤ q ∧ q < opsA.toList.length ∧ d = T.D q ∧ T.k q = 1 ∧ T.nx q ≤ l ∧ l < T.nx (q + 1) := fun q d l b h1 h2 => by
      have hql : q < opsA.toList.length := by have := (List.getElem?_eq_some_iff.1 h1).1; omega
      rw [hdg q hql] at h1
      cases h1
      split at h2
      · rename_i hep
        have hk1 : T.k q = 1 := by
          have : T.k q = 1 ∨ T.k q ≠ 1 := by omega
          rcases this with g | g
          · exact g
          · rw [T.D_nil hql g] at h2; cases h2
        obtain ⟨p1, p2⟩ := j.part q hql rfl hk1 hep
        exact ⟨hep, hql, by rw [if_pos hep], hk1, p2 l b h2, (p1.dom l b h2).2⟩
      · cases h2
    have hget : ∀ l b, Heap.get ⟨σ.ds.flatten ++ σ.hb, σ.nx⟩ l = some b → PL T every l b := fun l b h => by
      have h : Hp.get (σ.ds.flatten ++ σ.hb) l = some b := h
      rw [Hp.get_append] at h
      cases hq : Hp.get σ.ds.flatten l with
      | none => rw [hq] at h; exact .inr (by rw [← hhb]; exact h)
      | some x =>
        rw [hq] at h
        cases h
        obtain ⟨q, d, g1, g2⟩ := get_flatten _ hq
        obtain ⟨p1, p2, rfl, p4, _⟩ := hpart q d l b g1 g2
        exact .inl ⟨q, p2, rfl, p4, p1, g2⟩
    have hlow : ∀ l, l < s.h.next → Heap.get ⟨σ.ds.flatten ++ σ.hb, σ.nx⟩ l = Hp.get (T.st (T.ep every opsA.toList.length)).hb l := fun l hl => by
      show Hp.get (σ.ds.flatten ++ σ.hb) l = _
      rw [Hp.get_append]
      cases hq : Hp.get σ.ds.flatten l with
      | none => rw [hhb]
      | some x =>
        obtain ⟨q, d, g1, g2⟩ := get_flatten _ hq
        obtain ⟨p1, p2, _, _, p5, _⟩ := hpart q d l x g1 g2
        have := T.nx_le (Nat.zero_le q) (by omega)
        rw [nx0] at this
        omega
    have hscope : ∀ l, r'.ok l → l < σ.nx := fun l hl => by
      rcases j.okk l hl with h | ⟨q, h1, _, _, _, h6⟩
      · have := T.nx_le (T.ep_le every opsA.toList.length) hn; omega
      · have := T.nx_le (show q + 1 ≤ opsA.toList.length by omega) hn; omega
    have hcl : ∀ q, (r'.cut q).le r' := fun q => r'.cut_le q
    have hHR : HR (Heap.get ⟨σ.ds.flatten ++ σ.hb, σ.nx⟩) r' B W' := by
      have hsc : ∀ l b, PL T every l b → ∃ m' q, HR m' (r'.cut q) B W' ∧ m' l = some b := fun l b h => by
        rcases h with ⟨q, h1, h2, h3, h4, h5⟩ | h
        · exact ⟨_, _, (j.part q h1 h2 h3 h4).1, h5⟩
        · exact ⟨_, _, j.base, h⟩
      refine ⟨fun l b hb => ?_, fun l b hb ho => ?_, fun l b hb ho => ?_, fun l b l' b' h1 o1 h2 o2 e => j.inj l b l' b' (hget l b h1) o1 (hget l' b' h2) o2 e, j.base.nb, j.base.z⟩
      · obtain ⟨m', q, h1, h2⟩ := hsc l b (hget l b hb)
        exact (h1.mono (hcl q)).dom l b h2
      · obtain ⟨m', q, h1, h2⟩ := hsc l b (hget l b hb)
        exact (h1.mono (hcl q)).own l b h2 ho
      · obtain ⟨m', q, h1, h2⟩ := hsc l b (hget l b hb)
        exact (h1.mono (hcl q)).ro l b h2 ho
    have h0 : s.h.next ≤ σ.nx := by have := T.nx_le (Nat.zero_le opsA.toList.length) hn; rw [nx0, hnx] at this; exact this
    refine hq r' a' W' ⟨?_, hscope, j.b, hHR⟩ ⟨j.le, h0, j.okn, j.os, j.tape, j.output, j.size, j.frame, fun l h1 h2 => ?_, fun l b' h1 h2 => ?_, fun l b' h1 h2 => j.fresh l b' h1 (hget l b' h2)⟩ j.defers
    · refine all2_of_nth (by have := j.len; simp only [Array.length_toList]; omega) fun t x y hx hy => ?_
      rw [← nth_eq, hf2 t, Option.map_eq_some_iff] at hx
      obtain ⟨⟨v', q⟩, hsl, rfl⟩ := hx
      obtain ⟨u, hu, hv⟩ := j.slot t v' q hsl
      rw [Array.getElem?_toList, hu] at hy
      cases hy
      exact VV.mono (hcl q) hv
    · rw [hlow l h1]; exact j.keep l h1 h2
    · rw [hlow l h1] at h2; exact j.old l b' h1 h2
  · have hj := J.start (T := T) (r0 := r) (a0 := a) hr.i hr.f
    have : (fun j => (Array.replicate opsA.size false).getD j false) = fun _ => false := by
      funext j
      simp only [Array.getD_eq_getD_getElem?, Array.getElem?_replicate]
      split <;> rfl
    rw [this]
    exact hj
theorem region_any_ok (hty : TyOk P C.ty) (hC : CtxOk P C) (hm : P.follows .mixedOrders = true) {opsA : Array Oper} {id : Nat} {Q : Exit → Act → World → Prop} {B : Nat} {s s' : St} {r : Ren} {a : Act} {w : World} (hr : Rel s r B a w)
    (hs : drawR C fl opsA.toList s = some s') (hq : ∀ r' a' w', Rel s' r' B a' w' → Adv fl s.h r w s'.h r' w' → a'.defers = a.defers → Q .normal a' w') : (Code.region id opsA true).wp P Q a w := by
  obtain ⟨σ, hσ, hs⟩ := ob_some hs
  cases hs
  obtain ⟨T, hT, hn⟩ := Tr.make hσ
  exact region_trace_ok hty hC hm hr T hT (fun i l _ h => by rw [hn] at h; cases h) hq

/-! .. with loads that may come at any time -/
theorem lastK_snoc (l : List Nat) (k : Nat) : lastK (l ++ [k]) = k := by simp [lastK]
theorem freeLoad_some {fr : Fr} {h0 : Heap} {o : Oper} {l : Nat} {v : V} (h : freeLoad C fr h0 o = some (l, v)) : Fre C fr h0 o l v := by
  unfold freeLoad at h
  split at h
  · rename_i t x hop
    obtain ⟨Ty, hT, h⟩ := ob_some h
    obtain ⟨p, hp, h⟩ := ob_some h
    obtain ⟨cs, hcs, h⟩ := ob_some h
    obtain ⟨y, hy, h⟩ := ob_some h
    cases h
    exact ⟨t, x, Ty, p.2, cs, y, hop, hT, hp, hcs, hy, rfl⟩
  · cases h
theorem store_get {fr : Fr} {h hw : Heap} {o : Oper} {v : V} {h' : Heap} {t : Nat} (ht : tgtOf fr o = some t) (hh : how C fr h hw fl o.op = .w (some (v, h')) ∨ ∃ r, how C fr h hw fl o.op = .qw r (some (v, h'))) {l : Nat} (hl : l ≠ t) (hln : l < hw.next) : Hp.get h'.m l = Hp.get hw.m l := by
  unfold tgtOf at ht
  split at ht
  · rename_i ty x y hop
    obtain ⟨s, hs, ht⟩ := ob_some ht
    rcases hh with hh | ⟨_, hh⟩
    · rw [hop] at hh
      simp only [how, How.w.injEq] at hh
      rcases orR_some hh with hh | hh
      · obtain ⟨Ty, hT, hh⟩ := ob_some hh
        obtain ⟨p, hp, hh⟩ := ob_some hh
        obtain ⟨v', hv', hh⟩ := ob_some hh
        cases hc : (v'.cells.length == Ty.size && Nat.ble fl p.1) <;> rw [hc] at hh <;> simp only [cond_true, cond_false] at hh
        · cases hh
        obtain ⟨b, hb, hh⟩ := ob_some hh
        cases hbo : b.own <;> rw [hbo] at hh <;> simp only [cond_true, cond_false] at hh
        · cases hh
        obtain ⟨cs, hcs, hh⟩ := ob_some hh
        cases hh
        obtain ⟨s', hs', hp'⟩ := ob_some hp
        rw [hs] at hs'
        cases hs'
        have e : p.1 = t := by
          unfold S.isPtr at hp'
          split at hp' <;> cases hp'
          cases ht
          rfl
        rw [Hp.get_set _ _ _ _ hb, if_neg (by rw [e]; exact hl)]
      · obtain ⟨s', hs', hh⟩ := ob_some hh
        obtain ⟨v', hv', hh⟩ := ob_some hh
        rw [hs] at hs'
        cases hs'
        unfold storeX at hh
        split at hh
        · rename_i l' o' n' i' _
          have ht : l' = t := Option.some.inj ht
          subst ht
          obtain ⟨Ty, hT, hh⟩ := ob_some hh
          cases hc : (Ty.size == 1 && Nat.ble fl l') <;> rw [hc] at hh <;> simp only [cond_true, cond_false] at hh
          · cases hh
          obtain ⟨b, hb, hh⟩ := ob_some hh
          cases hbo : b.own <;> rw [hbo] at hh <;> simp only [cond_true, cond_false] at hh
          · cases hh
          obtain ⟨cs, _, hh⟩ := ob_some hh
          obtain ⟨ds, _, hh⟩ := ob_some hh
          obtain ⟨es, _, hh⟩ := ob_some hh
          cases hh
          rw [Hp.get_set _ _ _ _ hb, if_neg hl]
        · cases hh
    · rw [hop] at hh; cases hh
  · rename_i c hop
    split at ht
    · rename_i s rest hcal hargs
      obtain ⟨sv, hsv, ht⟩ := ob_some ht
      rcases hh with hh | ⟨_, hh⟩
      · rw [hop] at hh
        simp only [how, hcal, howCall, howBuiltin] at hh
        cases hh
      · rw [hop] at hh
        simp only [how, hcal, howCall, howBuiltin, How.qw.injEq] at hh
        obtain ⟨t1, u, s1, x, E, sv', xv, p, e1, e2, e3, e4, e5, e6, e7, e8, e9⟩ := appOp_some hh.2
        rw [hargs] at e2
        cases e2
        rw [hsv] at e5
        cases e5
        cases hz : (szS sv == E.size) <;> rw [hz] at e9 <;> simp only [cond_true, cond_false] at e9
        · cases e9
        unfold appW at e9
        split at e9
        · rename_i l' o' n' z' c'
          have ht : l' = t := Option.some.inj ht
          subst ht
          cases hc : (Nat.ble n' 65536 && Nat.ble (n' + p.1) c' && Nat.ble fl l') <;> rw [hc] at e9 <;> simp only [cond_true, cond_false] at e9
          · cases e9
          obtain ⟨b, hb, e9⟩ := ob_some e9
          cases hbo : b.own <;> rw [hbo] at e9 <;> simp only [cond_true, cond_false] at e9
          · cases e9
          obtain ⟨cs, _, e9⟩ := ob_some e9
          cases e9
          rw [Hp.get_set _ _ _ _ hb, if_neg hl]
        · rename_i l' o' n' z'
          have ht : l' = t := Option.some.inj ht
          subst ht
          cases hc : (Nat.ble n' 65536 && Nat.ble fl l' && o' == 0) <;> rw [hc] at e9 <;> simp only [cond_true, cond_false] at e9
          · cases e9
          obtain ⟨b, hb, e9⟩ := ob_some e9
          cases hbo : (b.own && Nat.ble (n' * z') b.cells.length) <;> rw [hbo] at e9 <;> simp only [cond_true, cond_false] at e9
          · cases e9
          cases e9
          rw [Hp.get_cons]
          have : (hw.next == l) = false := by
            cases e : (hw.next == l)
            · rfl
            · have e' : hw.next = l := by simpa using e
              omega
          rw [this, cond_false, Hp.get_del, if_neg hl]
        · cases e9
    · cases ht
  · cases ht
/-- the steps, and what each of them writes and may read at any time -/
theorem freeR_some {ops : List Oper} {an : List Nat} {h0 : Heap} : ∀ (l : List Oper) {s out : Fs}, freeR C fl ops an h0 l s = some out →
    ∃ (st : Nat → RS) (k : Nat → Nat) (v : Nat → V) (D : Nat → Hp) (H : Nat → Heap) (q : Nat → Option Nat), st 0 = s.rs ∧ st l.length = out.rs ∧ (∀ x, x ∈ s.ls → x ∈ out.ls) ∧ (∀ x, x ∈ s.ts → x ∈ out.ts) ∧ ∀ i o, l[i]? = some o →
      Step C fl ops h0 (st i) o (maskOf (st i).an o) (st (i + 1)) (k i) (v i) (D i) (H i) (q i) ∧ (∀ x, q i = some x → x ∈ out.ls ∧ ∃ b, h0.get x = some b) ∧ (k i = 2 → ∃ t, tgtOf (st i).fr o = some t ∧ t ∈ out.ts)
  | [], s, out, h => by cases h; exact ⟨fun _ => s.rs, fun _ => 0, fun _ => undef, fun _ => [], fun _ => ⟨[], 0⟩, fun _ => none, rfl, rfl, fun _ h => h, fun _ h => h, fun i o h => by simp at h⟩
  | o :: l, s, out, h => by
    obtain ⟨s1, hs1, h⟩ := ob_some (show ob (stepF C fl ops an h0 s o (maskOf s.rs.an o)) (freeR C fl ops an h0 l) = some out from h)
    obtain ⟨st, k, v, D, H, q, a1, a2, a3, a4, a5⟩ := freeR_some l h
    have key : ∃ k0 v0 D0 H0 q0, Step C fl ops h0 s.rs o (maskOf s.rs.an o) s1.rs k0 v0 D0 H0 q0 ∧ (∀ x, x ∈ s.ls → x ∈ s1.ls) ∧ (∀ x, x ∈ s.ts → x ∈ s1.ts) ∧ (∀ x, q0 = some x → x ∈ s1.ls ∧ ∃ b, h0.get x = some b) ∧ (k0 = 2 → ∃ t, tgtOf s.rs.fr o = some t ∧ t ∈ s1.ts) := by
      unfold stepF at hs1
      cases hc : (edgesOk s.rs.os.length o && guardOk ops o s.rs.fr) <;> rw [hc] at hs1 <;> simp only [cond_true, cond_false] at hs1
      · cases hs1
      simp only [Bool.and_eq_true] at hc
      cases hw : wantedV ops o s.rs.fr <;> rw [hw] at hs1 <;> simp only [cond_true, cond_false] at hs1
      · obtain ⟨r, hr, hs1⟩ := ob_some hs1
        cases hs1
        unfold stepD at hr
        rw [show (edgesOk s.rs.os.length o && guardOk ops o s.rs.fr) = true by simp [hc], hw] at hr
        simp only [cond_true, cond_false] at hr
        exact ⟨0, undef, [], ⟨[], 0⟩, none, endP_some hc.1 hc.2 hr (.inl ⟨hw, rfl⟩), fun _ h => h, fun _ h => h, fun x h => (by cases h), fun h => by cases h⟩
      · cases hf' : looseL C s.rs.fr h0 o (looseAt an s.rs.os.length 0 ops) with
        | some p =>
          have hf : freeLoad C s.rs.fr h0 o = some p := by
            unfold looseL at hf'
            cases hb : looseAt an s.rs.os.length 0 ops <;> rw [hb] at hf' <;> simp only [cond_true, cond_false] at hf'
            · cases hf'
            · exact hf'
          rw [hf'] at hs1
          obtain ⟨r, hr, hs1⟩ := ob_some (show ob (endP ops s.rs o (maskOf s.rs.an o) p.2) (fun r => some ⟨r, p.1 :: s.ls, s.ts⟩) = some s1 from hs1)
          cases hs1
          exact ⟨0, p.2, [], ⟨[], 0⟩, some p.1, endP_some hc.1 hc.2 hr (.inr (.inr ⟨hw, p.1, rfl, freeLoad_some hf⟩)), fun x h => List.mem_cons_of_mem _ h, fun _ h => h, fun x h => (by
            cases h
            obtain ⟨_, _, _, _, _, _, _, _, _, hrd, _⟩ := freeLoad_some hf
            obtain ⟨b, hb, _⟩ := ob_some hrd
            exact ⟨List.mem_cons_self .., b, hb⟩), fun h => by cases h⟩
        | none =>
          rw [hf'] at hs1
          obtain ⟨r, hr, hs1⟩ := ob_some (show ob (stepD C fl ops s.rs o (maskOf s.rs.an o)) (fun r => bif lastK r.cl == 2 then ob (tgtOf s.rs.fr o) fun t => some ⟨r, s.ls, t :: s.ts⟩ else some ⟨r, s.ls, s.ts⟩) = some s1 from hs1)
          obtain ⟨k0, v0, D0, H0, hst⟩ := step_some h0 hr
          have hlast : lastK r.cl = k0 := by rw [hst.cl]; exact lastK_snoc _ _
          rw [hlast] at hs1
          cases hk : (k0 == 2) <;> rw [hk] at hs1 <;> simp only [cond_true, cond_false] at hs1
          · cases hs1
            exact ⟨k0, v0, D0, H0, none, hst, fun _ h => h, fun _ h => h, fun x h => (by cases h), fun h => by rw [h] at hk; cases hk⟩
          · obtain ⟨t, ht, hs1⟩ := ob_some hs1
            cases hs1
            exact ⟨k0, v0, D0, H0, none, hst, fun _ h => h, fun x h => List.mem_cons_of_mem _ h, fun x h => (by cases h), fun _ => ⟨t, ht, List.mem_cons_self ..⟩⟩
    obtain ⟨k0, v0, D0, H0, q0, b1, b2, b3, b4, b5⟩ := key
    refine ⟨fun i => match i with | 0 => s.rs | i + 1 => st i, fun i => match i with | 0 => k0 | i + 1 => k i, fun i => match i with | 0 => v0 | i + 1 => v i, fun i => match i with | 0 => D0 | i + 1 => D i, fun i => match i with | 0 => H0 | i + 1 => H i, fun i => match i with | 0 => q0 | i + 1 => q i,
      rfl, a2, fun x hx => a3 x (b2 x hx), fun x hx => a4 x (b3 x hx), fun i p hp => ?_⟩
    cases i with
    | zero =>
      simp at hp; subst hp
      refine ⟨?_, fun x hx => ⟨a3 x (b4 x hx).1, (b4 x hx).2⟩, fun h => ?_⟩
      · show Step C fl ops h0 s.rs o (maskOf s.rs.an o) (st 0) k0 v0 D0 H0 q0
        rw [a1]; exact b1
      · obtain ⟨t, h1, h2⟩ := b5 h
        exact ⟨t, h1, a4 t h2⟩
    | succ i => exact a5 i p (by simpa using hp)
theorem region_free_ok (hty : TyOk P C.ty) (hC : CtxOk P C) (hm : P.follows .mixedOrders = true) {opsA : Array Oper} {id : Nat} {Q : Exit → Act → World → Prop} {B : Nat} {s s' : St} {r : Ren} {a : Act} {w : World} (hr : Rel s r B a w)
    (hs : drawF C fl opsA.toList s = some s') (hq : ∀ r' a' w', Rel s' r' B a' w' → Adv fl s.h r w s'.h r' w' → a'.defers = a.defers → Q .normal a' w') : (Code.region id opsA true).wp P Q a w := by
  obtain ⟨σ, hσ, hs⟩ := ob_some hs
  cases hc : (σ.ls.all fun l => σ.ts.all fun t => !(t == l)) <;> rw [hc] at hs <;> simp only [cond_true, cond_false] at hs
  · cases hs
  cases hs
  obtain ⟨st, k, v, D, H, q, a1, a2, _, _, a5⟩ := freeR_some _ hσ
  have a1 : st 0 = ⟨s.fr, s.h.m, [], [], [], [], s.h.next⟩ := a1
  let T : Tr C fl opsA.toList s.fr s.h := ⟨st, k, v, D, H, q, a1, fun i o ho => (a5 i o ho).1⟩
  refine region_trace_ok hty hC hm hr T a2 (fun i l hin hl e he => ?_) hq
  -- nothing that is looked at at any time is written
  obtain ⟨_, g2, _⟩ := a5 i _ (List.getElem?_eq_getElem hin)
  obtain ⟨g3, b, hb⟩ := g2 l hl
  have hne : ∀ t, t ∈ σ.ts → l ≠ t := fun t ht e => by
    have := List.all_eq_true.1 (List.all_eq_true.1 hc l g3) t ht
    simp [e] at this
  have hln : l < s.h.next := hr.i.n l (hr.i.hr.dom l b hb)
  have hlow : ∀ e, e ≤ opsA.toList.length → Hp.get ((T.st e).ds.flatten ++ (T.st e).hb) l = Hp.get (T.st e).hb l := fun e he => by
    rw [Hp.get_append]
    cases hq' : Hp.get (T.st e).ds.flatten l with
    | none => rfl
    | some x =>
      exfalso
      obtain ⟨j, d, h1, h2⟩ := get_flatten _ hq'
      obtain ⟨h3, h4⟩ := T.ds e he
      have hj : j < e := by have := (List.getElem?_eq_some_iff.1 h1).1; omega
      rw [h4 j hj] at h1
      cases h1
      split at h2
      · have hjn : j < opsA.toList.length := by omega
        have hs := T.step j _ (List.getElem?_eq_getElem hjn)
        have h0 : s.h.next ≤ T.nx j := by have := T.nx_le (Nat.zero_le j) (Nat.le_of_lt hjn); rw [nx0] at this; exact this
        rcases hs.kind with ⟨_, hD, _⟩ | ⟨_, hD, _⟩ | ⟨_, hD, _⟩
        · rw [hD] at h2; cases h2
        · rw [hD] at h2
          have := (get_newD _ _ h2).2
          have h0' : s.h.next ≤ (T.st j).nx := h0
          omega
        · rw [hD] at h2; cases h2
      · cases h2
  induction e with
  | zero => rw [T.st0]
  | succ e ih =>
    have hen : e < opsA.toList.length := he
    have ih' := ih (by omega)
    have ho := List.getElem?_eq_getElem hen
    have hs := T.step e _ ho
    obtain ⟨_, _, h3⟩ := a5 e _ ho
    rcases hs.kind with ⟨_, _, h1, _⟩ | ⟨_, _, h1, _⟩ | ⟨hk, _, h1, _, _, _, w1, hh, hcc⟩
    · rw [h1]; exact ih'
    · rw [h1]; exact ih'
    · obtain ⟨t, ht, htm⟩ := h3 hk
      rw [h1]
      have h0 : s.h.next ≤ (T.st e).nx := by have := T.nx_le (Nat.zero_le e) (Nat.le_of_lt hen); rw [nx0] at this; exact this
      have hw2 : how C (T.st e).fr ⟨selD (maskOf (T.st e).an opsA.toList[e]) 0 (T.st e).ds ++ (T.st e).hb, (T.st e).nx⟩ ⟨(T.st e).ds.flatten ++ (T.st e).hb, (T.st e).nx⟩ fl opsA.toList[e].op = .w (some (T.v e, T.H e)) ∨ ∃ r, how C (T.st e).fr ⟨selD (maskOf (T.st e).an opsA.toList[e]) 0 (T.st e).ds ++ (T.st e).hb, (T.st e).nx⟩ ⟨(T.st e).ds.flatten ++ (T.st e).hb, (T.st e).nx⟩ fl opsA.toList[e].op = .qw r (some (T.v e, T.H e)) := by
        rcases hcc with h | ⟨r', h⟩ | ⟨f, as, h, _⟩
        · exact .inl (hh.trans h)
        · exact .inr ⟨r', hh.trans h⟩
        · exfalso
          have hcall := hh.trans h
          have ht : tgtOf (T.st e).fr opsA.toList[e] = some t := ht
          unfold tgtOf at ht
          split at ht
          · rename_i hop; rw [hop] at hcall; cases hcall
          · rename_i c hop
            split at ht
            · rename_i s0 rest hcal hargs
              rw [hop] at hcall
              simp only [how, hcal, howCall, howBuiltin] at hcall
              cases hcall
            · cases ht
          · cases ht
      have := store_get (C := C) (fl := fl) ht hw2 (hne t htm) (show l < (T.st e).nx by omega)
      rw [this, hlow e (by omega)]
      exact ih'
theorem region_draw_ok (hty : TyOk P C.ty) (hC : CtxOk P C) (hm : P.follows .mixedOrders = true) {opsA : Array Oper} {id : Nat} {Q : Exit → Act → World → Prop} {B : Nat} {s s' : St} {r : Ren} {a : Act} {w : World} (hr : Rel s r B a w)
    (hs : region C fl opsA.toList true s = some s') (hq : ∀ r' a' w', Rel s' r' B a' w' → Adv fl s.h r w s'.h r' w' → a'.defers = a.defers → Q .normal a' w') : (Code.region id opsA true).wp P Q a w := by
  have hs : orS (drawR C fl opsA.toList s) (drawF C fl opsA.toList s) = some s' := hs
  cases hd : drawR C fl opsA.toList s with
  | some x =>
    rw [hd] at hs
    cases hs
    exact region_any_ok hty hC hm hr hd hq
  | none =>
    rw [hd] at hs
    exact region_free_ok hty hC hm hr hs hq
end
end Go.Proofs.YtaamdiknefodgaaDoor.Am
