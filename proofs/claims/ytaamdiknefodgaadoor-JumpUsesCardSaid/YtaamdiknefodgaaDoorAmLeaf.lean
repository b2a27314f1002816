/- Cases of a law's arguments: what is known at each, and how they are split. (No program in sight.) -/
import Derived.Test.YtaamdiknefodgaaDoorAmFlat
namespace Go.Proofs.YtaamdiknefodgaaDoor.Am
open Go.RowKit
set_option linter.unusedSectionVars false
set_option linter.unusedVariables false
noncomputable section

/-- one case: intervals; what differs, what is less; which number stands for which; strings that are written out; strings that are not these -/
structure Lf where
  iv : List (Int × Int)
  ne : List (Nat × Nat)
  lt : List (Nat × Nat)
  to : List Nat
  st : List (Nat × List Nat)
  sn : List (Nat × List Nat)
  cf : List (List (Nat × Int))
def Lf.rep (L : Lf) (i : Nat) : Nat := Option.rec i (fun j => j) (nth L.to i)
/-- how long a string may be: a string's length is a number; others are short -/
def mxL (ss : List Nat) : Nat → List (Int × Int) → List Nat
  | _, [] => []
  | i, p :: r => (bif memN i ss then p.2.toNat else 21) :: mxL ss (i + 1) r
theorem mxL_at (ss : List Nat) : ∀ (l : List (Int × Int)) (i j m : Nat), nth (mxL ss i l) j = some m → ∃ p, nth l j = some p ∧ m = bif memN (i + j) ss then p.2.toNat else 21
  | [], _, _, _, h => by simp [mxL, nth_nil] at h
  | p :: r, i, 0, m, h => by simp only [mxL, nth_cons_zero, Option.some.injEq] at h; exact ⟨p, rfl, h.symm⟩
  | p :: r, i, j + 1, m, h => by
    simp only [mxL, nth_cons_succ] at h
    obtain ⟨q, h1, h2⟩ := mxL_at ss r (i + 1) j m h
    exact ⟨q, h1, by rw [h2, show i + 1 + j = i + (j + 1) by omega]⟩
theorem memN_iff {i : Nat} : ∀ {l : List Nat}, memN i l = true ↔ i ∈ l
  | [] => by simp [memN]
  | x :: l => by
    have ih := memN_iff (i := i) (l := l)
    show (Nat.beq x i || memN i l) = true ↔ _
    rw [Bool.or_eq_true, ih, List.mem_cons, Nat.beq_eq]
    exact ⟨fun h => h.imp Eq.symm id, fun h => h.imp Eq.symm id⟩
@[reducible] def Lf.know0 (L : Lf) : Know := ⟨L.iv, [], [], [], [], [], [], [], [], [], [], []⟩
@[reducible] def Lf.know (L : Lf) (ss : List Nat) : Know := ⟨L.iv, L.ne, L.lt, mxL ss 0 L.iv, L.sn.map fun p => ([256 + p.1], p.2, false), ss.map fun i => ([256 + i], i), L.cf, [], [], [], [], []⟩
structure Lf.Holds (L : Lf) (rho : Nat → Int) (sig : Nat → List UInt8) : Prop where
  iv : ∀ i p, nth L.iv i = some p → p.1 ≤ rho i ∧ rho i ≤ p.2
  ne : ∀ i j, (i, j) ∈ L.ne → rho i ≠ rho j
  lt : ∀ i j, (i, j) ∈ L.lt → rho i < rho j
  to : ∀ i j, nth L.to i = some j → rho i = rho j
  st : ∀ i l, (i, l) ∈ L.st → sig i = strX sig l
  sn : ∀ i l, (i, l) ∈ L.sn → sig i ≠ strX sig l
  cf : ∀ m, m ∈ L.cf → (m.all fun p => decide (rho p.1 = p.2)) = false
/-- numbers of strings are their lengths -/
structure Lens (ss : List Nat) (rho : Nat → Int) (sig : Nat → List UInt8) : Prop where
  all : ∀ i, i ∉ ss → (sig i).length ≤ 21
  ss : ∀ i, i ∈ ss → rho i = (sig i).length
theorem strX_one (sig : Nat → List UInt8) (i : Nat) : strX sig [256 + i] = sig i := by
  have h : Nat.blt (256 + i) 256 = false := Bool.eq_false_iff.2 fun h => by
    rw [Nat.blt_eq] at h
    omega
  have e : 256 + i - 256 = i := by omega
  simp only [strX, h, cond_false, List.append_nil, e]
theorem Lf.ok {L : Lf} {ss : List Nat} {rho : Nat → Int} {sig : Nat → List UInt8} (h : L.Holds rho sig) (k : Lens ss rho sig) : KnowOk (L.know ss) rho sig where
  iv := h.iv
  ne i j e := h.ne i j (hasPair_mem e)
  lt i j e := h.lt i j (hasPair_mem e)
  mx i m e := by
    obtain ⟨p, hp, rfl⟩ := mxL_at ss L.iv 0 i m e
    obtain ⟨h1, h2⟩ := h.iv i p hp
    rw [Nat.zero_add]
    cases hm : memN i ss with
    | true =>
      have := k.ss i (memN_iff.1 hm)
      simp only [cond_true]
      omega
    | false => exact k.all i fun h' => by rw [memN_iff.2 h'] at hm; cases hm
  sq a b r e := by
    have e : (a, b, r) ∈ L.sn.map fun p => ([256 + p.1], p.2, false) := e
    simp only [List.mem_map, Prod.mk.injEq] at e
    obtain ⟨p, hp, rfl, rfl, rfl⟩ := e
    rw [strX_one]
    exact decide_eq_false (h.sn _ _ hp)
  ln a j e := by
    have e : (a, j) ∈ ss.map fun i => ([256 + i], i) := e
    simp only [List.mem_map, Prod.mk.injEq] at e
    obtain ⟨i, hi, rfl, rfl⟩ := e
    rw [strX_one]
    exact k.ss _ hi
  cf := h.cf
  df _ _ _ h := by cases h
  sx _ _ _ h := by cases h
  ct _ _ _ _ h := by cases h
  sb _ _ _ h := by cases h
  ad _ _ _ h := by cases h
theorem Lf.ok0 {L : Lf} {rho : Nat → Int} {sig : Nat → List UInt8} (h : L.Holds rho sig) : KnowOk L.know0 rho sig :=
  ⟨h.iv, fun i j h => (by cases h), fun i j h => (by cases h), fun i m h => (by cases h), fun a b r h => (by cases h), fun a j h => (by cases h), fun m h => (by cases h), fun _ _ _ h => (by cases h), fun _ _ _ h => (by cases h), fun _ _ _ _ h => (by cases h), fun _ _ _ h => (by cases h), fun _ _ _ h => (by cases h)⟩

/-! what is written out in a case -/
def Lf.str (L : Lf) (i : Nat) : Option (List Nat) := List.rec none (fun p _ ih => bif Nat.beq p.1 i then some p.2 else ih) L.st
def Lf.xs (L : Lf) : List Nat → List Nat := List.rec [] fun n _ ih => (bif Nat.blt n 256 then [n] else Option.rec [n] (fun l => l) (L.str (n - 256))) ++ ih
def S.ofXs (l : List Nat) : S := bif l.all (fun n => Nat.blt n 256) then .str (l.map UInt8.ofNat) else .xs l
def S.ofXi (k : IntKind) (i : Nat) (p : Option (Int × Int)) : S := Option.rec (.xi k i) (fun p => bif decide (p.1 = p.2) then .int k p.1 else .xi k i) p
def S.ofXe (l : List (Nat × Int)) (b : Option Bool) : S := Option.rec (.xe l) (fun b => .bool b) b
def Lf.nS (L : Lf) (x : S) : S := match x with
  | .xi k i => .ofXi k (L.rep i) (nth L.iv (L.rep i))
  | .xe l => .ofXe (l.map fun p => (L.rep p.1, p.2)) (@anyE L.know0 (l.map fun p => (L.rep p.1, p.2)))
  | .xs l => .ofXs (L.xs l)
  | x => x
def Lf.nA (L : Lf) (x : A) : A := match x with
  | .s x => .s (L.nS x)
  | .g l => .g (l.map L.nS)
section
variable [Base] {L : Lf}
theorem Lf.rep_ok {rho : Nat → Int} {sig : Nat → List UInt8} (h : L.Holds rho sig) (i : Nat) : rho (L.rep i) = rho i := by
  unfold Lf.rep
  cases hi : nth L.to i with
  | none => rfl
  | some j => exact (h.to i j hi).symm
theorem Lf.str_ok {rho : Nat → Int} {sig : Nat → List UInt8} (h : L.Holds rho sig) {i : Nat} {l : List Nat} (e : L.str i = some l) : sig i = strX sig l := by
  refine h.st i l ?_
  unfold Lf.str at e
  generalize L.st = st at e ⊢
  induction st with
  | nil => cases e
  | cons p t ih =>
    have e : (bif Nat.beq p.1 i then some p.2 else List.rec none (fun p _ ih => bif Nat.beq p.1 i then some p.2 else ih) t : Option (List Nat)) = some l := e
    cases hc : Nat.beq p.1 i <;> rw [hc] at e <;> simp only [cond_true, cond_false] at e
    · simp [ih e]
    · cases e
      rw [← Nat.eq_of_beq_eq_true hc]
      simp
theorem strX_append (sig : Nat → List UInt8) : ∀ a b : List Nat, strX sig (a ++ b) = strX sig a ++ strX sig b
  | [], _ => rfl
  | n :: a, b => by simp only [List.cons_append, strX, strX_append sig a b, List.append_assoc]
theorem Lf.xs_ok {rho : Nat → Int} {sig : Nat → List UInt8} (h : L.Holds rho sig) : ∀ l : List Nat, strX sig (L.xs l) = strX sig l
  | [] => rfl
  | n :: l => by
    show strX sig ((bif Nat.blt n 256 then [n] else Option.rec [n] (fun l => l) (L.str (n - 256))) ++ L.xs l) = _
    rw [strX_append, Lf.xs_ok h l]
    simp only [strX]
    congr 1
    cases hn : Nat.blt n 256 with
    | true => simp [strX, hn]
    | false =>
      simp only [cond_false]
      cases hs : L.str (n - 256) with
      | none => simp [strX, hn]
      | some m => exact (Lf.str_ok h hs).symm
theorem strX_plain (sig : Nat → List UInt8) : ∀ {l : List Nat}, l.all (fun n => Nat.blt n 256) = true → strX sig l = l.map UInt8.ofNat
  | [], _ => rfl
  | n :: l, h => by
    simp only [List.all_cons, Bool.and_eq_true] at h
    simp [strX, h.1, strX_plain sig h.2]
theorem Lf.nS_ok {r : Ren} (h : L.Holds Base.rho Base.sig) {x : S} {v : Value} (hv : VS r x v) : VS r (L.nS x) v := by
  cases x with
  | xi kd i =>
    cases hv
    show VS r (.ofXi kd (L.rep i) (nth L.iv (L.rep i))) _
    rw [← Lf.rep_ok h i]
    cases hp : nth L.iv (L.rep i) with
    | none => rfl
    | some p =>
      show VS r (bif decide (p.1 = p.2) then .int kd p.1 else .xi kd (L.rep i)) _
      have := h.iv _ _ hp
      cases hd : decide (p.1 = p.2) with
      | false => rfl
      | true =>
        simp only [decide_eq_true_eq] at hd
        show _ = _
        congr 1
        omega
  | xe l =>
    cases hv
    have e : (l.any fun p => decide (Base.rho p.1 = p.2)) = ((l.map fun p => (L.rep p.1, p.2)).any fun p => decide (Base.rho p.1 = p.2)) := by
      rw [List.any_map]
      congr 1
      funext p
      simp only [Function.comp, Lf.rep_ok h]
    rw [e]
    show VS r (.ofXe (l.map fun p => (L.rep p.1, p.2)) (@anyE L.know0 (l.map fun p => (L.rep p.1, p.2)))) _
    cases hb : @anyE L.know0 (l.map fun p => (L.rep p.1, p.2)) with
    | none => rfl
    | some b =>
      exact congrArg Value.bool (@anyE_ok (Base.known L.know0 (Lf.ok0 h) 0 default) _ _ hb)
  | xs l =>
    cases hv
    show VS r (.ofXs (L.xs l)) _
    rw [← Lf.xs_ok h l]
    unfold S.ofXs
    cases hp : (L.xs l).all (fun n => Nat.blt n 256) with
    | false => rfl
    | true => show _ = _; rw [strX_plain _ hp]
  | _ => exact hv
theorem Lf.nSs_ok {r : Ren} (h : L.Holds Base.rho Base.sig) : ∀ {l : List S} {vs : List Value}, All2 (VS r) l vs → All2 (VS r) (l.map L.nS) vs
  | [], [], _ => trivial
  | x :: l, v :: vs, hv => ⟨Lf.nS_ok h hv.1, Lf.nSs_ok h hv.2⟩
  | [], _ :: _, h => h.elim
  | _ :: _, [], h => h.elim
theorem Lf.nA_ok {r : Ren} (h : L.Holds Base.rho Base.sig) {x : A} {v : Value} (hv : VA r x v) : VA r (L.nA x) v := by
  cases x with
  | s x => exact Lf.nS_ok h hv
  | g l => obtain ⟨vs, e, a⟩ := hv; exact ⟨vs, e, Lf.nSs_ok h a⟩
theorem Lf.nAs_ok {r : Ren} (h : L.Holds Base.rho Base.sig) : ∀ {l : List A} {vs : List Value}, All2 (VA r) l vs → All2 (VA r) (l.map L.nA) vs
  | [], [], _ => trivial
  | x :: l, v :: vs, hv => ⟨Lf.nA_ok h hv.1, Lf.nAs_ok h hv.2⟩
  | [], _ :: _, h => h.elim
  | _ :: _, [], h => h.elim
end

/-! splitting -/
inductive Sp where
  | leaf
  | void
  | cut (i : Nat) (c : Int) (a b : Sp)
  | eqs (i j : Nat) (a b : Sp)
  | tri (i j : Nat) (a b c : Sp)
  | str (i : Nat) (l : List Nat) (a b : Sp)
  | conj (l : List (Nat × Int)) (a b : Sp)
def Lf.hi (L : Lf) (i : Nat) (c : Int) : Lf := { L with iv := Option.rec L.iv (fun p => upd L.iv i (p.1, bif decide (p.2 ≤ c) then p.2 else c)) (nth L.iv i) }
def Lf.lo (L : Lf) (i : Nat) (c : Int) : Lf := { L with iv := Option.rec L.iv (fun p => upd L.iv i (bif decide (c ≤ p.1) then p.1 else c, p.2)) (nth L.iv i) }
def Lf.within (L : Lf) (i j : Nat) : Lf := Option.rec L (fun p => (L.lo i p.1).hi i p.2) (nth L.iv j)
def ren (i j k : Nat) : Nat := bif Nat.beq k j then i else k
/-- j is i -/
def Lf.unify (L : Lf) (i j : Nat) : Lf :=
  { L.within i j with ne := L.ne.map fun p => (ren i j p.1, ren i j p.2), lt := L.lt.map fun p => (ren i j p.1, ren i j p.2), cf := L.cf.map fun m => m.map fun p => (ren i j p.1, p.2), to := L.to.map (ren i j) }
def Lf.differ (L : Lf) (i j : Nat) : Lf := { L with ne := (i, j) :: L.ne }
def Lf.less (L : Lf) (i j : Nat) : Lf := { L with lt := (i, j) :: L.lt }
/-- all of these numbers are these -/
def Lf.all (L : Lf) : List (Nat × Int) → Lf := List.rec L fun p _ ih => (ih.hi p.1 p.2).lo p.1 p.2
def Lf.void (L : Lf) : Bool := L.iv.any (fun p => decide (p.2 < p.1)) || L.ne.any (fun p => Nat.beq p.1 p.2) || L.lt.any (fun p => Nat.beq p.1 p.2)
def Sp.leaves (sp : Sp) : Lf → List Lf :=
  Sp.rec (fun L => [L]) (fun L => bif L.void then [] else [L]) (fun i c _ _ a b L => a (L.hi i (c - 1)) ++ b (L.lo i c)) (fun i j _ _ a b L => a (L.unify i j) ++ b (L.differ i j))
    (fun i j _ _ _ a b c L => a (L.less i j) ++ (b (L.unify i j) ++ c (L.less j i))) (fun i l _ _ a b L => a { L with st := (i, l) :: L.st } ++ b { L with sn := (i, l) :: L.sn }) (fun l _ _ a b L => a (L.all l) ++ b { L with cf := l :: L.cf }) sp
section
variable {L : Lf} {rho : Nat → Int} {sig : Nat → List UInt8}
theorem nth_upd {α : Type} (l : List α) (i j : Nat) (y x : α) (h : nth (upd l i y) j = some x) : (j = i ∧ x = y) ∨ (j ≠ i ∧ nth l j = some x) := by
  rw [upd_eq, nth_eq, List.getElem?_set] at h
  by_cases e : i = j
  · subst e
    simp only [if_true] at h
    split at h
    · cases h; exact .inl ⟨rfl, rfl⟩
    · cases h
  · simp only [e, if_false] at h
    exact .inr ⟨fun h => e h.symm, by rw [nth_eq]; exact h⟩
theorem Lf.Holds.hi (h : L.Holds rho sig) {i : Nat} {c : Int} (hc : rho i ≤ c) : (L.hi i c).Holds rho sig := by
  refine ⟨fun j p e => ?_, h.ne, h.lt, h.to, h.st, h.sn, h.cf⟩
  unfold Lf.hi at e
  cases hi : nth L.iv i with
  | none => rw [hi] at e; exact h.iv j p e
  | some q =>
    rw [hi] at e
    rcases nth_upd _ _ _ _ _ e with ⟨rfl, rfl⟩ | ⟨_, e⟩
    · have := h.iv _ _ hi
      refine ⟨this.1, ?_⟩
      cases decide (q.2 ≤ c)
      · exact hc
      · exact this.2
    · exact h.iv j p e
theorem Lf.Holds.lo (h : L.Holds rho sig) {i : Nat} {c : Int} (hc : c ≤ rho i) : (L.lo i c).Holds rho sig := by
  refine ⟨fun j p e => ?_, h.ne, h.lt, h.to, h.st, h.sn, h.cf⟩
  unfold Lf.lo at e
  cases hi : nth L.iv i with
  | none => rw [hi] at e; exact h.iv j p e
  | some q =>
    rw [hi] at e
    rcases nth_upd _ _ _ _ _ e with ⟨rfl, rfl⟩ | ⟨_, e⟩
    · have := h.iv _ _ hi
      refine ⟨?_, this.2⟩
      cases decide (c ≤ q.1)
      · exact hc
      · exact this.1
    · exact h.iv j p e
theorem Lf.Holds.within (h : L.Holds rho sig) {i j : Nat} (e : rho i = rho j) : (L.within i j).Holds rho sig := by
  unfold Lf.within
  cases hj : nth L.iv j with
  | none => exact h
  | some p =>
    have := h.iv _ _ hj
    exact (h.lo (by omega)).hi (by omega)
theorem ren_ok {i j : Nat} (e : rho i = rho j) (k : Nat) : rho (ren i j k) = rho k := by
  unfold ren
  cases hk : Nat.beq k j
  · rfl
  · rw [Nat.eq_of_beq_eq_true hk]; exact e
theorem Lf.Holds.unify (h : L.Holds rho sig) {i j : Nat} (e : rho i = rho j) : (L.unify i j).Holds rho sig := by
  refine ⟨(h.within e).iv, fun a b m => ?_, fun a b m => ?_, fun a b m => ?_, (h.within e).st, (h.within e).sn, fun m hm => ?_⟩
  · have m : (a, b) ∈ L.ne.map fun p => (ren i j p.1, ren i j p.2) := m
    obtain ⟨p, hp, e'⟩ := List.mem_map.1 m
    cases e'
    rw [ren_ok e, ren_ok e]
    exact h.ne _ _ hp
  · have m : (a, b) ∈ L.lt.map fun p => (ren i j p.1, ren i j p.2) := m
    obtain ⟨p, hp, e'⟩ := List.mem_map.1 m
    cases e'
    rw [ren_ok e, ren_ok e]
    exact h.lt _ _ hp
  · have m : nth (L.to.map (ren i j)) a = some b := m
    rw [nth_eq, List.getElem?_map] at m
    cases hp : L.to[a]? with
    | none => rw [hp] at m; cases m
    | some p =>
      rw [hp] at m
      cases m
      rw [ren_ok e]
      exact h.to a p (by rw [nth_eq]; exact hp)
  · have hm : m ∈ L.cf.map fun m => m.map fun p => (ren i j p.1, p.2) := hm
    obtain ⟨m', hm', rfl⟩ := List.mem_map.1 hm
    rw [List.all_map]
    rw [← h.cf m' hm']
    congr 1
    funext p
    simp only [Function.comp, ren_ok e]
theorem Lf.void_ok (h : L.Holds rho sig) : L.void = false := by
  unfold Lf.void
  simp only [Bool.or_eq_false_iff, List.any_eq_false]
  refine ⟨⟨fun p hp => ?_, fun p hp => ?_⟩, fun p hp => ?_⟩
  · obtain ⟨i, hi⟩ := List.getElem?_of_mem hp
    have := h.iv i p (by rw [nth_eq]; exact hi)
    simp
    omega
  · intro e
    have := h.ne p.1 p.2 hp
    rw [Nat.eq_of_beq_eq_true e] at this
    exact this rfl
  · intro e
    have := h.lt p.1 p.2 hp
    rw [Nat.eq_of_beq_eq_true e] at this
    omega
theorem Lf.Holds.all (h : L.Holds rho sig) : ∀ {l : List (Nat × Int)}, (l.all fun p => decide (rho p.1 = p.2)) = true → (L.all l).Holds rho sig
  | [], _ => h
  | p :: l, e => by
    simp only [List.all_cons, Bool.and_eq_true, decide_eq_true_eq] at e
    exact ((h.all e.2).hi (by omega)).lo (by omega)
theorem Sp.cover (sp : Sp) : ∀ {L : Lf}, L.Holds rho sig → ∃ L' ∈ sp.leaves L, L'.Holds rho sig := by
  induction sp with
  | leaf => exact fun {L} h => ⟨L, List.mem_singleton.2 rfl, h⟩
  | void =>
    intro L h
    refine ⟨L, ?_, h⟩
    show L ∈ (bif L.void then [] else [L])
    rw [Lf.void_ok h]
    simp
  | cut i c a b ha hb =>
    intro L h
    by_cases e : rho i < c
    · obtain ⟨L', m, h'⟩ := ha (h.hi (i := i) (c := c - 1) (by omega))
      exact ⟨L', List.mem_append.2 (.inl m), h'⟩
    · obtain ⟨L', m, h'⟩ := hb (h.lo (i := i) (c := c) (by omega))
      exact ⟨L', List.mem_append.2 (.inr m), h'⟩
  | eqs i j a b ha hb =>
    intro L h
    by_cases e : rho i = rho j
    · obtain ⟨L', m, h'⟩ := ha (h.unify e)
      exact ⟨L', List.mem_append.2 (.inl m), h'⟩
    · obtain ⟨L', m, h'⟩ := hb (L := L.differ i j) ⟨h.iv, fun a b m => by
        rcases List.mem_cons.1 m with e' | m
        · cases e'; exact e
        · exact h.ne a b m, h.lt, h.to, h.st, h.sn, h.cf⟩
      exact ⟨L', List.mem_append.2 (.inr m), h'⟩
  | tri i j a b c ha hb hc =>
    intro L h
    have hl : ∀ {i j : Nat}, rho i < rho j → (L.less i j).Holds rho sig := fun {i j} e => ⟨h.iv, h.ne, fun a b m => by
        rcases List.mem_cons.1 m with e' | m
        · cases e'; exact e
        · exact h.lt a b m, h.to, h.st, h.sn, h.cf⟩
    rcases Int.lt_trichotomy (rho i) (rho j) with e | e | e
    · obtain ⟨L', m, h'⟩ := ha (hl e)
      exact ⟨L', List.mem_append.2 (.inl m), h'⟩
    · obtain ⟨L', m, h'⟩ := hb (h.unify e)
      exact ⟨L', List.mem_append.2 (.inr (List.mem_append.2 (.inl m))), h'⟩
    · obtain ⟨L', m, h'⟩ := hc (hl e)
      exact ⟨L', List.mem_append.2 (.inr (List.mem_append.2 (.inr m))), h'⟩
  | str i l a b ha hb =>
    intro L h
    by_cases e : sig i = strX sig l
    · obtain ⟨L', m, h'⟩ := ha (L := { L with st := (i, l) :: L.st }) ⟨h.iv, h.ne, h.lt, h.to, fun a b m => by
        rcases List.mem_cons.1 m with e' | m
        · cases e'; exact e
        · exact h.st a b m, h.sn, h.cf⟩
      exact ⟨L', List.mem_append.2 (.inl m), h'⟩
    · obtain ⟨L', m, h'⟩ := hb (L := { L with sn := (i, l) :: L.sn }) ⟨h.iv, h.ne, h.lt, h.to, h.st, fun a b m => by
        rcases List.mem_cons.1 m with e' | m
        · cases e'; exact e
        · exact h.sn a b m, h.cf⟩
      exact ⟨L', List.mem_append.2 (.inr m), h'⟩
  | conj l a b ha hb =>
    intro L h
    cases e : l.all fun p => decide (rho p.1 = p.2) with
    | true =>
      obtain ⟨L', m, h'⟩ := ha (h.all e)
      exact ⟨L', List.mem_append.2 (.inl m), h'⟩
    | false =>
      obtain ⟨L', m, h'⟩ := hb (L := { L with cf := l :: L.cf }) ⟨h.iv, h.ne, h.lt, h.to, h.st, h.sn, fun m hm => by
        rcases List.mem_cons.1 hm with e' | hm
        · rw [e']; exact e
        · exact h.cf m hm⟩
      exact ⟨L', List.mem_append.2 (.inr m), h'⟩
end

/-! arguments without references: a number for each of their cells -/
abbrev Gp := Bool × List Kd
def cellT (i : Nat) : Kd → S
  | .b => .xe [(i, 1)]
  | .i k => .xi k i
  | .s => .xs [256 + i]
def cellsT : Nat → List Kd → List S
  | _, [] => []
  | i, k :: ks => cellT i k :: cellsT (i + 1) ks
def argT (i : Nat) (g : Gp) : A := match g with
  | (false, [k]) => .s (cellT i k)
  | g => .g (cellsT i g.2)
def argsT : Nat → List Gp → List A
  | _, [] => []
  | i, g :: gs => argT i g :: argsT (i + g.2.length) gs
def Kd.iv : Kd → Int × Int
  | .b => (0, 1)
  | .i k => (k.min, k.max)
  | .s => (0, IntKind.i64.max)
def kindsT (gs : List Gp) : List Kd := gs.flatMap fun g => g.2
def strsT : Nat → List Kd → List Nat
  | _, [] => []
  | i, .s :: ks => i :: strsT (i + 1) ks
  | i, _ :: ks => strsT (i + 1) ks
def Lf.start (gs : List Gp) : Lf := ⟨(kindsT gs).map Kd.iv, [], [], List.range (kindsT gs).length, [], [], []⟩
def codeI (v : Value) : Int := match v with | .int _ n => n | .bool b => if b then 1 else 0 | .string s => s.size | _ => 0
/-- a number's digits -/
def decF : Nat → Nat → List UInt8 → List UInt8
  | 0, _, acc => acc
  | f + 1, u, acc => bif Nat.blt u 10 then UInt8.ofNat (48 + u) :: acc else decF f (u / 10) (UInt8.ofNat (48 + u % 10) :: acc)
def decT (n : Int) : List UInt8 := match n with
  | .ofNat u => decF 20 u []
  | .negSucc u => 45 :: decF 20 (u + 1) []
theorem decF_len : ∀ (f u : Nat) (acc : List UInt8), (decF f u acc).length ≤ f + acc.length
  | 0, _, acc => by simp [decF]
  | f + 1, u, acc => by
    rw [decF]
    cases Nat.blt u 10
    · have := decF_len f (u / 10) (UInt8.ofNat (48 + u % 10) :: acc)
      simp only [cond_false, List.length_cons] at this ⊢
      omega
    · simp only [cond_true, List.length_cons]
      omega
theorem decT_len (n : Int) : (decT n).length ≤ 21 := by
  unfold decT
  split
  · have := decF_len 20 (by assumption) []
    simp only [List.length_nil] at this
    omega
  · rename_i u
    have := decF_len 20 (u + 1) []
    simp only [List.length_nil, List.length_cons] at this ⊢
    omega
/-- a string of its own for each cell: a string itself, a number's digits -/
def codeS (v : Value) : List UInt8 := match v with | .string s => s.data.toList | .int _ n => decT n | _ => []
noncomputable def rhoOf (cs : List Value) : Nat → Int := valI (cs.map codeI)
noncomputable def sigOf (cs : List Value) : Nat → List UInt8 := valS (cs.map codeS)
def GpOk (g : Gp) (v : Value) (us : List Value) : Prop := All2 Kd.ok g.2 us ∧ ((g.1 = true ∧ v = .agg us.toArray) ∨ (g.1 = false ∧ us = [v]))
def Gps : List Gp → List Value → List Value → Prop
  | [], [], cs => cs = []
  | g :: gs, v :: vs, cs => ∃ us cs', cs = us ++ cs' ∧ GpOk g v us ∧ Gps gs vs cs'
  | _, _, _ => False
theorem rhoOf_at (pre post : List Value) (v : Value) : rhoOf (pre ++ v :: post) pre.length = codeI v := by simp [rhoOf, valI, nth_eq]
theorem sigOf_at (pre post : List Value) (v : Value) : sigOf (pre ++ v :: post) pre.length = codeS v := by simp [sigOf, valS, nth_eq]
theorem cellT_ok [Base] {r : Ren} {k : Kd} {v : Value} (h : k.ok v) {i : Nat} (h1 : Base.rho i = codeI v) (h2 : Base.sig i = codeS v) : VS r (cellT i k) v := by
  cases k with
  | b => obtain ⟨b, rfl⟩ := h; cases b <;> simp [cellT, VS, h1, codeI]
  | i k => obtain ⟨n, rfl, _⟩ := h; show _ = _; rw [h1]; rfl
  | s =>
    obtain ⟨s, rfl, _⟩ := h
    show _ = _
    rw [strX_one, h2]
    rfl
theorem cellsT_ok [Base] {r : Ren} {cs : List Value} (h1 : Base.rho = rhoOf cs) (h2 : Base.sig = sigOf cs) : ∀ {ks : List Kd} {us pre post : List Value}, cs = pre ++ (us ++ post) → All2 Kd.ok ks us → All2 (VS r) (cellsT pre.length ks) us
  | [], [], _, _, _, _ => trivial
  | k :: ks, u :: us, pre, post, e, h => by
    refine ⟨cellT_ok h.1 ?_ ?_, ?_⟩
    · rw [h1, e]; exact rhoOf_at _ _ _
    · rw [h2, e]; exact sigOf_at _ _ _
    · have := cellsT_ok (r := r) h1 h2 (ks := ks) (us := us) (pre := pre ++ [u]) (post := post) (by simp [e]) h.2
      simpa using this
  | [], _ :: _, _, _, _, h => h.elim
  | _ :: _, [], _, _, _, h => h.elim
theorem argT_ok [Base] {r : Ren} {cs : List Value} (h1 : Base.rho = rhoOf cs) (h2 : Base.sig = sigOf cs) {g : Gp} {v : Value} {us pre post : List Value} (e : cs = pre ++ (us ++ post)) (h : GpOk g v us) : VA r (argT pre.length g) v := by
  obtain ⟨hk, h⟩ := h
  have hc := cellsT_ok (r := r) h1 h2 e hk
  obtain ⟨b, ks⟩ := g
  rcases h with ⟨hb, rfl⟩ | ⟨hb, rfl⟩
  · simp only at hb
    subst hb
    exact ⟨us, rfl, hc⟩
  · simp only at hb
    subst hb
    match ks, hk, hc with
    | [k], _, hc => exact hc.1
theorem argsT_ok [Base] {r : Ren} {cs : List Value} (h1 : Base.rho = rhoOf cs) (h2 : Base.sig = sigOf cs) (post : List Value) : ∀ {gs : List Gp} {vs pre cs' : List Value}, cs = pre ++ (cs' ++ post) → Gps gs vs cs' → All2 (VA r) (argsT pre.length gs) vs
  | [], [], _, _, _, _ => trivial
  | g :: gs, v :: vs, pre, cs', e, h => by
    obtain ⟨us, cs'', rfl, hg, h⟩ := h
    refine ⟨argT_ok (post := cs'' ++ post) h1 h2 (by rw [e]; simp) hg, ?_⟩
    have := argsT_ok (r := r) h1 h2 post (gs := gs) (vs := vs) (pre := pre ++ us) (cs' := cs'') (by simp [e]) h
    rw [List.length_append, ← hg.1.len] at this
    exact this
  | [], _ :: _, _, _, _, h => h.elim
  | _ :: _, [], _, _, _, h => h.elim
theorem Gps.kinds : ∀ {gs : List Gp} {vs cs : List Value}, Gps gs vs cs → All2 Kd.ok (kindsT gs) cs
  | [], [], cs, h => by cases h; trivial
  | g :: gs, v :: vs, cs, h => by
    obtain ⟨us, cs', rfl, hg, h⟩ := h
    exact hg.1.app h.kinds
  | [], _ :: _, _, h => h.elim
  | _ :: _, [], _, h => h.elim
theorem Kd.iv_ok {k : Kd} {v : Value} (h : k.ok v) : k.iv.1 ≤ codeI v ∧ codeI v ≤ k.iv.2 := by
  cases k with
  | b => obtain ⟨b, rfl⟩ := h; cases b <;> decide
  | i k => obtain ⟨n, rfl, h⟩ := h; exact h
  | s => obtain ⟨s, rfl, h⟩ := h; exact ⟨by simp [Kd.iv, codeI], h⟩
theorem Lf.start_ok {gs : List Gp} {vs cs : List Value} (h : Gps gs vs cs) : (Lf.start gs).Holds (rhoOf cs) (sigOf cs) where
  iv i p e := by
    have e : nth ((kindsT gs).map Kd.iv) i = some p := e
    rw [nth_eq, List.getElem?_map] at e
    cases hk : (kindsT gs)[i]? with
    | none => rw [hk] at e; cases e
    | some k =>
      rw [hk] at e
      cases e
      obtain ⟨v, hv, hkv⟩ := All2.nth h.kinds (n := i) (x := k) (by rw [nth_eq]; exact hk)
      have := Kd.iv_ok hkv
      simpa [rhoOf, valI, nth_eq, hv] using this
  ne _ _ e := by cases e
  lt _ _ e := by cases e
  to i j e := by
    have e : nth (List.range (kindsT gs).length) i = some j := e
    rw [nth_eq] at e
    obtain ⟨_, e⟩ := List.getElem?_eq_some_iff.1 e
    simp at e
    rw [e]
  st _ _ e := by cases e
  sn _ _ e := by cases e
  cf _ e := by cases e
theorem strsT_mem : ∀ {ks : List Kd} {o i : Nat}, i ∈ strsT o ks → ∃ j, i = o + j ∧ ks[j]? = some .s
  | [], _, _, h => by cases h
  | .s :: ks, o, i, h => by
    rcases List.mem_cons.1 h with rfl | h
    · exact ⟨0, rfl, rfl⟩
    · obtain ⟨j, rfl, h'⟩ := strsT_mem h
      exact ⟨j + 1, by omega, h'⟩
  | .b :: ks, o, i, h => by
    obtain ⟨j, rfl, h'⟩ := strsT_mem (ks := ks) (o := o + 1) h
    exact ⟨j + 1, by omega, h'⟩
  | .i _ :: ks, o, i, h => by
    obtain ⟨j, rfl, h'⟩ := strsT_mem (ks := ks) (o := o + 1) h
    exact ⟨j + 1, by omega, h'⟩
/-- the strings of numbers -/
def Dec (ks : List Kd) (rho : Nat → Int) (sig : Nat → List UInt8) : Prop := ∀ i, nth ks i = some (.i .i64) → sig i = decT (rho i) ∧ IntKind.i64.min ≤ rho i ∧ rho i ≤ IntKind.i64.max
theorem dec_ok {gs : List Gp} {vs cs : List Value} (h : Gps gs vs cs) : Dec (kindsT gs) (rhoOf cs) (sigOf cs) := fun i hi => by
  obtain ⟨v, hv, hk⟩ := All2.nth h.kinds hi
  obtain ⟨n, rfl, h1, h2⟩ := hk
  have e1 : rhoOf cs i = n := by simp [rhoOf, valI, nth_eq, hv, codeI]
  have e2 : sigOf cs i = decT n := by simp [sigOf, valS, nth_eq, hv, codeS]
  rw [e1, e2]
  exact ⟨rfl, h1, h2⟩
theorem strsT_has : ∀ {ks : List Kd} {o i : Nat}, ks[i]? = some .s → o + i ∈ strsT o ks
  | [], _, _, h => by simp at h
  | k :: ks, o, 0, h => by
    simp only [List.getElem?_cons_zero, Option.some.injEq] at h
    subst h
    exact List.mem_cons_self ..
  | k :: ks, o, i + 1, h => by
    have := strsT_has (ks := ks) (o := o + 1) (i := i) (by simpa using h)
    rw [show o + 1 + i = o + (i + 1) by omega] at this
    cases k with
    | s => exact List.mem_cons_of_mem _ this
    | b => exact this
    | i _ => exact this
theorem codeS_short {k : Kd} {v : Value} (h : k.ok v) (hk : k ≠ .s) : (codeS v).length ≤ 21 := by
  cases k with
  | b => obtain ⟨b, rfl⟩ := h; simp [codeS]
  | i k => obtain ⟨n, rfl, _⟩ := h; exact decT_len n
  | s => exact absurd rfl hk
theorem lens_ok {gs : List Gp} {vs cs : List Value} (h : Gps gs vs cs) : Lens (strsT 0 (kindsT gs)) (rhoOf cs) (sigOf cs) where
  all i hi := by
    simp only [sigOf, valS, nth_eq, List.getElem?_map]
    cases hv : cs[i]? with
    | none => simp
    | some v =>
      have hlt := (List.getElem?_eq_some_iff.1 hv).1
      have hl := h.kinds.len
      have hk : (kindsT gs)[i]? = some ((kindsT gs)[i]'(by omega)) := List.getElem?_eq_getElem _
      obtain ⟨v', hv', hok⟩ := All2.nth h.kinds (n := i) (by rw [nth_eq]; exact hk)
      rw [hv] at hv'
      cases hv'
      refine codeS_short hok fun e => hi ?_
      rw [e] at hk
      simpa using strsT_has (o := 0) hk
  ss i hi := by
    obtain ⟨j, rfl, hj⟩ := strsT_mem hi
    rw [Nat.zero_add]
    obtain ⟨v, hv, hk⟩ := All2.nth h.kinds (n := j) (x := .s) (by rw [nth_eq]; exact hj)
    obtain ⟨s, rfl, _⟩ := hk
    simp [sigOf, rhoOf, valS, valI, nth_eq, hv, codeI, codeS]

/-- an argument of one cell -/
theorem open_one {P : Program} {w : World} {r : Reach} {b : Nat} {t : TypeId} {v : Value} {kd : Kd} (hk : kdOf P t = some kd) (h : Value.okWide P w r b t v) : kd.ok v := by
  have hk' := hk
  unfold kdOf at hk
  split at hk <;> cases hk <;> rename_i hu <;> exact kd_ok hk' (by simpa [Value.okWide, hu] using h)
/-- a law's answer, out of its cases -/
theorem law_cases {P : Program} {f : FuncId} {w : World} {nb : Nat} (hnb : nb ≤ w.heap.size) {gs : List Gp} (O : Lf → Oracle)
    (hO : ∀ (L : Lf) {rho : Nat → Int} {sig : Nat → List UInt8} (h : L.Holds rho sig) (k : Lens (strsT 0 (kindsT gs)) rho sig) (d : Dec (kindsT gs) rho sig), @Sound (Base.known (L.know (strsT 0 (kindsT gs))) (Lf.ok h k) nb w) P (O L))
    {sp : Sp} (hrun : ((sp.leaves (Lf.start gs)).all fun L => tells true (O L f ((argsT 0 gs).map L.nA) ⟨[], 0⟩ 0)) = true)
    {vs cs : List Value} (h : Gps gs vs cs) : Calls P f vs.toArray w fun e w' => e = .returned (.bool true) ∧ Below w.heap.size w w' := by
  obtain ⟨L, hm, hL⟩ := sp.cover (Lf.start_ok h)
  have k := lens_ok h
  letI : Base := Base.known (L.know (strsT 0 (kindsT gs))) (Lf.ok hL k) nb w
  have ha : All2 (VA r0) (argsT 0 gs) vs := argsT_ok (pre := []) (cs' := cs) rfl rfl [] (by simp) h
  exact calls_bool w hnb (fun _ _ => rfl) (hO L hL k (dec_ok h)) (Lf.nAs_ok hL ha) (all_get hrun hm)

/-! .. with strings of its own behind the cells: texts of parts of the arguments, which are not written out -/
def Lf.startX (gs : List Gp) (m : Nat) : Lf := ⟨(kindsT gs).map Kd.iv ++ List.replicate m (0, 21), [], [], List.range ((kindsT gs).length + m), [], [], []⟩
def withX (cs : List Value) (xs : List (List UInt8)) : List Value := cs ++ xs.map fun x => .string ⟨x.toArray⟩
theorem nth_app_lt {α : Type} {a b : List α} {i : Nat} (h : i < a.length) : nth (a ++ b) i = nth a i := by rw [nth_eq, nth_eq, List.getElem?_append_left h]
theorem Lf.startX_ok {gs : List Gp} {vs cs : List Value} (h : Gps gs vs cs) {xs : List (List UInt8)} (hl : ∀ x, x ∈ xs → x.length ≤ 21) : (Lf.startX gs xs.length).Holds (rhoOf (withX cs xs)) (sigOf (withX cs xs)) where
  iv i p e := by
    have e : nth ((kindsT gs).map Kd.iv ++ List.replicate xs.length (0, 21)) i = some p := e
    have hlen : ((kindsT gs).map Kd.iv).length = cs.length := by rw [List.length_map]; exact h.kinds.len
    by_cases hi : i < cs.length
    · rw [nth_app_lt (by omega)] at e
      have h0 := (Lf.start_ok h).iv i p e
      have hr : rhoOf (withX cs xs) i = rhoOf cs i := by
        simp only [rhoOf, valI, withX, List.map_append, nth_eq]
        rw [List.getElem?_append_left (by simpa using hi)]
      rw [hr]
      exact h0
    · rw [nth_eq, List.getElem?_append_right (by omega)] at e
      obtain ⟨hk, e⟩ := List.getElem?_eq_some_iff.1 e
      simp only [List.getElem_replicate] at e
      subst e
      rw [List.length_replicate] at hk
      have hx : xs[i - cs.length]? = some (xs[i - cs.length]'(by omega)) := List.getElem?_eq_getElem _
      have hr : rhoOf (withX cs xs) i = ((xs[i - cs.length]'(by omega)).length : Int) := by
        simp only [rhoOf, valI, withX, List.map_append, nth_eq, List.map_map]
        rw [List.getElem?_append_right (by simp; omega), List.getElem?_map, List.length_map, hx]
        simp [codeI, ByteArray.size]
      rw [hr]
      have := hl _ (List.mem_of_getElem? hx)
      simp only
      omega
  ne _ _ e := by cases e
  lt _ _ e := by cases e
  to i j e := by
    have e : nth (List.range ((kindsT gs).length + xs.length)) i = some j := e
    rw [nth_eq] at e
    obtain ⟨_, e⟩ := List.getElem?_eq_some_iff.1 e
    simp at e
    rw [e]
  st _ _ e := by cases e
  sn _ _ e := by cases e
  cf _ e := by cases e
theorem rho_withX {cs : List Value} {xs : List (List UInt8)} {i : Nat} (hi : i < cs.length) : rhoOf (withX cs xs) i = rhoOf cs i := by
  simp only [rhoOf, valI, withX, List.map_append, nth_eq]
  rw [List.getElem?_append_left (by simpa using hi)]
theorem sig_withX {cs : List Value} {xs : List (List UInt8)} {i : Nat} (hi : i < cs.length) : sigOf (withX cs xs) i = sigOf cs i := by
  simp only [sigOf, valS, withX, List.map_append, nth_eq]
  rw [List.getElem?_append_left (by simpa using hi)]
/-- the strings behind the cells -/
theorem sig_X {cs : List Value} {xs : List (List UInt8)} {j : Nat} {x : List UInt8} (h : xs[j]? = some x) : sigOf (withX cs xs) (cs.length + j) = x := by
  simp only [sigOf, valS, withX, List.map_append, nth_eq, List.map_map]
  rw [List.getElem?_append_right (by simp), List.getElem?_map, List.length_map, show cs.length + j - cs.length = j by omega, h]
  simp [codeS]
theorem lens_withX {gs : List Gp} {vs cs : List Value} (h : Gps gs vs cs) {xs : List (List UInt8)} (hl : ∀ x, x ∈ xs → x.length ≤ 21) : Lens (strsT 0 (kindsT gs)) (rhoOf (withX cs xs)) (sigOf (withX cs xs)) where
  all i hi := by
    by_cases hlt : i < cs.length
    · rw [sig_withX hlt]
      exact (lens_ok h).all i hi
    · obtain ⟨j, rfl⟩ : ∃ j, i = cs.length + j := ⟨i - cs.length, by omega⟩
      cases hx : xs[j]? with
      | some x =>
        rw [sig_X hx]
        exact hl x (List.mem_of_getElem? hx)
      | none =>
        simp only [sigOf, valS, withX, List.map_append, nth_eq, List.map_map]
        rw [List.getElem?_append_right (by simp), List.getElem?_map, List.length_map, show cs.length + j - cs.length = j by omega, hx]
        simp
  ss i hi := by
    have hlt : i < cs.length := by
      obtain ⟨j, rfl, hj⟩ := strsT_mem hi
      have := (List.getElem?_eq_some_iff.1 hj).1
      have := h.kinds.len
      omega
    rw [rho_withX hlt, sig_withX hlt]
    exact (lens_ok h).ss i hi
theorem dec_withX {gs : List Gp} {vs cs : List Value} (h : Gps gs vs cs) (xs : List (List UInt8)) : Dec (kindsT gs) (rhoOf (withX cs xs)) (sigOf (withX cs xs)) := fun i hi => by
  have hlt : i < cs.length := by
    rw [nth_eq] at hi
    have := (List.getElem?_eq_some_iff.1 hi).1
    have := h.kinds.len
    omega
  rw [rho_withX hlt, sig_withX hlt]
  exact dec_ok h i hi
/-- a law's answer, out of its cases -/
theorem law_casesX {P : Program} {f : FuncId} {w : World} {nb : Nat} (hnb : nb ≤ w.heap.size) {gs : List Gp} {m : Nat} (E : (Nat → Int) → (Nat → List UInt8) → Prop) (O : Lf → Oracle)
    (hO : ∀ (L : Lf) {rho : Nat → Int} {sig : Nat → List UInt8} (h : L.Holds rho sig) (k : Lens (strsT 0 (kindsT gs)) rho sig) (d : Dec (kindsT gs) rho sig) (e : E rho sig), @Sound (Base.known (L.know (strsT 0 (kindsT gs))) (Lf.ok h k) nb w) P (O L))
    {sp : Sp} (hrun : ((sp.leaves (Lf.startX gs m)).all fun L => tells true (O L f ((argsT 0 gs).map L.nA) ⟨[], 0⟩ 0)) = true)
    {vs cs : List Value} (h : Gps gs vs cs) {xs : List (List UInt8)} (hm : xs.length = m) (hl : ∀ x, x ∈ xs → x.length ≤ 21) (he : E (rhoOf (withX cs xs)) (sigOf (withX cs xs))) : Calls P f vs.toArray w fun e w' => e = .returned (.bool true) ∧ Below w.heap.size w w' := by
  subst hm
  obtain ⟨L, hmem, hL⟩ := sp.cover (Lf.startX_ok h hl)
  have k := lens_withX h hl
  letI : Base := Base.known (L.know (strsT 0 (kindsT gs))) (Lf.ok hL k) nb w
  have ha : All2 (VA r0) (argsT 0 gs) vs := argsT_ok (pre := []) (cs' := cs) (cs := withX cs xs) rfl rfl (xs.map fun x => .string ⟨x.toArray⟩) rfl h
  exact calls_bool w hnb (fun _ _ => rfl) (hO L hL k (dec_withX h xs) he) (Lf.nAs_ok hL ha) (all_get hrun hmem)
end
end Go.Proofs.YtaamdiknefodgaaDoor.Am
