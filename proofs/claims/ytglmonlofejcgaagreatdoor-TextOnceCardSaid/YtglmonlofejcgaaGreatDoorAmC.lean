/- Cases of a law's arguments. -/
import Derived.Test.YtglmonlofejcgaaGreatDoorAmB
open Nat renaming eq_of_beq_eq_true → apu, beq → apw, blt → apC, blt_eq → apE, lt_of_lt_of_le → apQ, le_trans → apT, le_of_not_lt → apU
open Bool renaming and_eq_true → apv, or_eq_true → apZ
open List renaming getElem?_append_right → apx, getElem?_append_left → apy, getElem?_eq_some_iff → apz, mem_append → apA, getElem?_map → apB, all_cons → apF, length_map → apG, map_append → apH, mem_cons_of_mem → apI, getElem?_eq_getElem → apJ, all_eq_true → apK, mem_cons → apL, mem_cons_self → apM, mem_map → apN, range → apO, append_assoc → apR, length_cons → apS, take_append_drop → apV, mem_of_getElem? → apW, map_map → apX, append_nil → aq0, length_nil → aq1
set_option linter.unusedSectionVars false
set_option linter.unusedVariables false
namespace Go.Proofs.YtglmonlofejcgaaGreatDoor
namespace Am
open Go.RowKit
noncomputable section
structure Lf where
 iv : List (Int × Int)
 ne : List (Nat × Nat)
 lt : List (Nat × Nat)
 to : List Nat
 st : List (Nat × List Nat)
 sn : List (Nat × List Nat)
 cf : List (List (Nat × Int))
def Lf.rep (L : Lf) (i : Nat) : Nat := Option.rec i (fun j => j) (nth L.to i)
def mxL (ss : List Nat) : Nat -> List (Int × Int) -> List Nat
 | _, [] => []
 | i, p :: r => (bif Qk i ss then p.2.toNat else 21) :: mxL ss (i + 1) r
theorem a9p (ss : List Nat) : ∀ (l : List (Int × Int)) (i j m : Nat), nth (mxL ss i l) j = some m -> ∃ p, nth l j = some p /\ m = bif Qk (i + j) ss then p.2.toNat else 21
 | [], _, _, _, h => by simp [mxL, DU] at h
 | p :: r, i, 0, m, h => by simp only [mxL, oq, Option.some.injEq] at h; exact ⟨p, rfl, h.symm⟩
 | p :: r, i, j + 1, m, h => by
  simp only [mxL, oI] at h
  obtain ⟨q, h1, h2⟩ := a9p ss r (i + 1) j m h
  exact ⟨q, h1, by rw [h2, show i + 1 + j = i + (j + 1) by omega]⟩
theorem Px {i : Nat} : ∀ {l : List Nat}, Qk i l = true ↔ i ∈ l
 | [] => by simp [Qk]
 | x :: l => by
  have ih := Px (i := i) (l := l)
  show (apw x i || Qk i l) = true ↔ _
  rw [apZ, ih, apL, Nat.beq_eq]
  exact ⟨fun h => h.imp Eq.symm id, fun h => h.imp Eq.symm id⟩
@[reducible] def Lf.Fh (L : Lf) : Know := ⟨L.iv, [], [], [], [], [], [], [], [], [], [], [], xZ.nought⟩
@[reducible] def Lf.know (L : Lf) (ss : List Nat) : Know := ⟨L.iv, L.ne, L.lt, mxL ss 0 L.iv, L.sn.map fun p => ([256 + p.1], p.2, false), ss.map fun i => ([256 + i], i), L.cf, [], [], [], [], [], xZ.nought⟩
structure Lf.Holds (L : Lf) (rho : Nat -> Int) (sig : Nat -> List UInt8) : Prop where
 iv : ∀ i p, nth L.iv i = some p -> p.1 <= rho i /\ rho i <= p.2
 ne : ∀ i j, (i, j) ∈ L.ne -> rho i ≠ rho j
 lt : ∀ i j, (i, j) ∈ L.lt -> rho i < rho j
 to : ∀ i j, nth L.to i = some j -> rho i = rho j
 st : ∀ i l, (i, l) ∈ L.st -> sig i = bH sig l
 sn : ∀ i l, (i, l) ∈ L.sn -> sig i ≠ bH sig l
 cf : ∀ m, m ∈ L.cf -> (m.all fun p => decide (rho p.1 = p.2)) = false
structure Lens (ss : List Nat) (rho : Nat -> Int) (sig : Nat -> List UInt8) : Prop where
 all : ∀ i, i ∉ ss -> (sig i).length <= 21
 ss : ∀ i, i ∈ ss -> rho i = (sig i).length
theorem gU (sig : Nat -> List UInt8) (i : Nat) : bH sig [256 + i] = sig i := by
 have h : apC (256 + i) 256 = false := Bool.eq_false_iff.2 fun h => by
  rw [apE] at h
  omega
 have e : 256 + i - 256 = i := by omega
 simp only [bH, h, cond_false, aq0, e]
theorem Lf.ok {L : Lf} {ss : List Nat} {rho : Nat -> Int} {sig : Nat -> List UInt8} (h : L.Holds rho sig) (k : Lens ss rho sig) : aG (L.know ss) rho sig where
 iv := h.iv
 ne i j e := h.ne i j (oL e)
 lt i j e := h.lt i j (oL e)
 mx i m e := by
  obtain ⟨p, hp, rfl⟩ := a9p ss L.iv 0 i m e
  obtain ⟨h1, h2⟩ := h.iv i p hp
  rw [Nat.zero_add]
  cases hm : Qk i ss with
  | true =>
   have := k.ss i (Px.1 hm)
   simp only [cond_true]
   omega
  | false => exact k.all i fun h' => by rw [Px.2 h'] at hm; cases hm
 sq a b r e := by
  have e : (a, b, r) ∈ L.sn.map fun p => ([256 + p.1], p.2, false) := e
  simp only [apN, Prod.mk.injEq] at e
  obtain ⟨p, hp, rfl, rfl, rfl⟩ := e
  rw [gU]
  exact decide_eq_false (h.sn _ _ hp)
 ln a j e := by
  have e : (a, j) ∈ ss.map fun i => ([256 + i], i) := e
  simp only [apN, Prod.mk.injEq] at e
  obtain ⟨i, hi, rfl, rfl⟩ := e
  rw [gU]
  exact k.ss _ hi
 cf := h.cf
 df _ _ _ h := by cases h
 sx _ _ _ h := by cases h
 ct _ _ _ _ h := by cases h
 sb _ _ _ h := by cases h
 ad _ _ _ h := by cases h
 xt := vX.nought _
theorem Lf.ok0 {L : Lf} {rho : Nat -> Int} {sig : Nat -> List UInt8} (h : L.Holds rho sig) : aG L.Fh rho sig :=
 ⟨h.iv, fun i j h => (by cases h), fun i j h => (by cases h), fun i m h => (by cases h), fun a b r h => (by cases h), fun a j h => (by cases h), fun m h => (by cases h), fun _ _ _ h => (by cases h), fun _ _ _ h => (by cases h), fun _ _ _ _ h => (by cases h), fun _ _ _ h => (by cases h), fun _ _ _ h => (by cases h), vX.nought _⟩
def Lf.str (L : Lf) (i : Nat) : Option (List Nat) := List.rec none (fun p _ ih => bif apw p.1 i then some p.2 else ih) L.st
def Lf.xs (L : Lf) : List Nat -> List Nat := List.rec [] fun n _ ih => (bif apC n 256 then [n] else Option.rec [n] (fun l => l) (L.str (n - 256))) ++ ih
def S.vG (l : List Nat) : S := bif l.all (fun n => apC n 256) then .str (l.map UInt8.ofNat) else .xs l
def S.aiZ (k : IntKind) (i : Nat) (p : Option (Int × Int)) : S := Option.rec (.xi k i) (fun p => bif decide (p.1 = p.2) then .int k p.1 else .xi k i) p
def S.ai7 (l : List (Nat × Int)) (b : Option Bool) : S := Option.rec (.xe l) (fun b => .bool b) b
def Lf.nS (L : Lf) (x : S) : S := match x with
 | .xi k i => .aiZ k (L.rep i) (nth L.iv (L.rep i))
 | .xe l => .ai7 (l.map fun p => (L.rep p.1, p.2)) (@Du L.Fh (l.map fun p => (L.rep p.1, p.2)))
 | .xs l => .vG (L.xs l)
 | x => x
def Lf.nA (L : Lf) (x : A) : A := match x with
 | .s x => .s (L.nS x)
 | .g l => .g (l.map L.nS)
section
variable [Base] {L : Lf}
theorem Lf.a0R {rho : Nat -> Int} {sig : Nat -> List UInt8} (h : L.Holds rho sig) (i : Nat) : rho (L.rep i) = rho i := by
 unfold Lf.rep
 cases hi : nth L.to i with
 | none => rfl
 | some j => exact (h.to i j hi).symm
theorem Lf.an0 {rho : Nat -> Int} {sig : Nat -> List UInt8} (h : L.Holds rho sig) {i : Nat} {l : List Nat} (e : L.str i = some l) : sig i = bH sig l := by
 refine h.st i l ?_
 unfold Lf.str at e
 generalize L.st = st at e |-
 induction st with
 | nil => cases e
 | cons p t ih =>
  have e : (bif apw p.1 i then some p.2 else List.rec none (fun p _ ih => bif apw p.1 i then some p.2 else ih) t : Option (List Nat)) = some l := e
  cases hc : apw p.1 i <;> rw [hc] at e <;> simp only [cond_true, cond_false] at e
  ·simp [ih e]
  ·cases e
   rw [<- apu hc]
   simp
theorem dD (sig : Nat -> List UInt8) : ∀ a b : List Nat, bH sig (a ++ b) = bH sig a ++ bH sig b
 | [], _ => rfl
 | n :: a, b => by simp only [List.cons_append, bH, dD sig a b, apR]
theorem Lf.akW {rho : Nat -> Int} {sig : Nat -> List UInt8} (h : L.Holds rho sig) : ∀ l : List Nat, bH sig (L.xs l) = bH sig l
 | [] => rfl
 | n :: l => by
  show bH sig ((bif apC n 256 then [n] else Option.rec [n] (fun l => l) (L.str (n - 256))) ++ L.xs l) = _
  rw [dD, Lf.akW h l]
  simp only [bH]
  congr 1
  cases hn : apC n 256 with
  | true => simp [bH, hn]
  | false =>
   simp only [cond_false]
   cases hs : L.str (n - 256) with
   | none => simp [bH, hn]
   | some m => exact (Lf.an0 h hs).symm
theorem qZ (sig : Nat -> List UInt8) : ∀ {l : List Nat}, l.all (fun n => apC n 256) = true -> bH sig l = l.map UInt8.ofNat
 | [], _ => rfl
 | n :: l, h => by
  simp only [apF, apv] at h
  simp [bH, h.1, qZ sig h.2]
theorem Lf.Xm {r : Ren} (h : L.Holds Base.rho Base.sig) {x : S} {v : Value} (hv : VS r x v) : VS r (L.nS x) v := by
 cases x with
 | xi kd i =>
  cases hv
  show VS r (.aiZ kd (L.rep i) (nth L.iv (L.rep i))) _
  rw [<- Lf.a0R h i]
  cases hp : nth L.iv (L.rep i) with
  | none => rfl
  | some p =>
   show VS r (bif decide (p.1 = p.2) then .int kd p.1 else .xi kd (L.rep i)) _
   have := h.iv _ _ hp
   cases hd : decide (p.1 = p.2) with
   | false => rfl
   | true =>
    simp only [decide_eq_true_eq] at hd
    show _ = _
    congr 1
    omega
 | xe l =>
  cases hv
  have e : (l.any fun p => decide (Base.rho p.1 = p.2)) = ((l.map fun p => (L.rep p.1, p.2)).any fun p => decide (Base.rho p.1 = p.2)) := by
   rw [List.any_map]
   congr 1
   funext p
   simp only [Function.comp, Lf.a0R h]
  rw [e]
  show VS r (.ai7 (l.map fun p => (L.rep p.1, p.2)) (@Du L.Fh (l.map fun p => (L.rep p.1, p.2)))) _
  cases hb : @Du L.Fh (l.map fun p => (L.rep p.1, p.2)) with
  | none => rfl
  | some b =>
   exact congrArg Value.bool (@JX (Base.known L.Fh (Lf.ok0 h) 0 default) _ _ hb)
 | xs l =>
  cases hv
  show VS r (.vG (L.xs l)) _
  rw [<- Lf.akW h l]
  unfold S.vG
  cases hp : (L.xs l).all (fun n => apC n 256) with
  | false => rfl
  | true => show _ = _; rw [qZ _ hp]
 | _ => exact hv
theorem Lf.Ov {r : Ren} (h : L.Holds Base.rho Base.sig) : ∀ {l : List S} {vs : List Value}, ak (VS r) l vs -> ak (VS r) (l.map L.nS) vs
 | [], [], _ => trivial
 | x :: l, v :: vs, hv => ⟨Lf.Xm h hv.1, Lf.Ov h hv.2⟩
 | [], _ :: _, h => h.elim
 | _ :: _, [], h => h.elim
theorem Lf.ao1 {r : Ren} (h : L.Holds Base.rho Base.sig) {x : A} {v : Value} (hv : VA r x v) : VA r (L.nA x) v := by
 cases x with
 | s x => exact Lf.Xm h hv
 | g l => obtain ⟨vs, e, a⟩ := hv; exact ⟨vs, e, Lf.Ov h a⟩
theorem Lf.yh {r : Ren} (h : L.Holds Base.rho Base.sig) : ∀ {l : List A} {vs : List Value}, ak (VA r) l vs -> ak (VA r) (l.map L.nA) vs
 | [], [], _ => trivial
 | x :: l, v :: vs, hv => ⟨Lf.ao1 h hv.1, Lf.yh h hv.2⟩
 | [], _ :: _, h => h.elim
 | _ :: _, [], h => h.elim
end
inductive Sp where
 | leaf
 | void
 | cut (i : Nat) (c : Int) (a b : Sp)
 | eqs (i j : Nat) (a b : Sp)
 | tri (i j : Nat) (a b c : Sp)
 | str (i : Nat) (l : List Nat) (a b : Sp)
 | conj (l : List (Nat × Int)) (a b : Sp)
def Lf.hi (L : Lf) (i : Nat) (c : Int) : Lf := { L with iv := Option.rec L.iv (fun p => upd L.iv i (p.1, bif decide (p.2 <= c) then p.2 else c)) (nth L.iv i) }
def Lf.lo (L : Lf) (i : Nat) (c : Int) : Lf := { L with iv := Option.rec L.iv (fun p => upd L.iv i (bif decide (c <= p.1) then p.1 else c, p.2)) (nth L.iv i) }
def Lf.within (L : Lf) (i j : Nat) : Lf := Option.rec L (fun p => (L.lo i p.1).hi i p.2) (nth L.iv j)
def ren (i j k : Nat) : Nat := bif apw k j then i else k
def Lf.unify (L : Lf) (i j : Nat) : Lf :=
 { L.within i j with ne := L.ne.map fun p => (ren i j p.1, ren i j p.2), lt := L.lt.map fun p => (ren i j p.1, ren i j p.2), cf := L.cf.map fun m => m.map fun p => (ren i j p.1, p.2), to := L.to.map (ren i j) }
def Lf.differ (L : Lf) (i j : Nat) : Lf := { L with ne := (i, j) :: L.ne }
def Lf.less (L : Lf) (i j : Nat) : Lf := { L with lt := (i, j) :: L.lt }
def Lf.all (L : Lf) : List (Nat × Int) -> Lf := List.rec L fun p _ ih => (ih.hi p.1 p.2).lo p.1 p.2
def Lf.void (L : Lf) : Bool := L.iv.any (fun p => decide (p.2 < p.1)) || L.ne.any (fun p => apw p.1 p.2) || L.lt.any (fun p => apw p.1 p.2)
def Sp.leaves (sp : Sp) : Lf -> List Lf :=
 Sp.rec (fun L => [L]) (fun L => bif L.void then [] else [L]) (fun i c _ _ a b L => a (L.hi i (c - 1)) ++ b (L.lo i c)) (fun i j _ _ a b L => a (L.unify i j) ++ b (L.differ i j))
  (fun i j _ _ _ a b c L => a (L.less i j) ++ (b (L.unify i j) ++ c (L.less j i))) (fun i l _ _ a b L => a { L with st := (i, l) :: L.st } ++ b { L with sn := (i, l) :: L.sn }) (fun l _ _ a b L => a (L.all l) ++ b { L with cf := l :: L.cf }) sp
section
variable {L : Lf} {rho : Nat -> Int} {sig : Nat -> List UInt8}
theorem a1B {α : Type} (l : List α) (i j : Nat) (y x : α) (h : nth (upd l i y) j = some x) : (j = i /\ x = y) \/ (j ≠ i /\ nth l j = some x) := by
 rw [OA, aN, List.getElem?_set] at h
 by_cases e : i = j
 ·subst e
  simp only [if_true] at h
  split at h
  ·cases h; exact .inl ⟨rfl, rfl⟩
  ·cases h
 ·simp only [e, if_false] at h
  exact .inr ⟨fun h => e h.symm, by rw [aN]; exact h⟩
theorem Lf.Holds.hi (h : L.Holds rho sig) {i : Nat} {c : Int} (hc : rho i <= c) : (L.hi i c).Holds rho sig := by
 refine ⟨fun j p e => ?_, h.ne, h.lt, h.to, h.st, h.sn, h.cf⟩
 unfold Lf.hi at e
 cases hi : nth L.iv i with
 | none => rw [hi] at e; exact h.iv j p e
 | some q =>
  rw [hi] at e
  rcases a1B _ _ _ _ _ e with ⟨rfl, rfl⟩ | ⟨_, e⟩
  ·have := h.iv _ _ hi
   refine ⟨this.1, ?_⟩
   cases decide (q.2 <= c)
   ·exact hc
   ·exact this.2
  ·exact h.iv j p e
theorem Lf.Holds.lo (h : L.Holds rho sig) {i : Nat} {c : Int} (hc : c <= rho i) : (L.lo i c).Holds rho sig := by
 refine ⟨fun j p e => ?_, h.ne, h.lt, h.to, h.st, h.sn, h.cf⟩
 unfold Lf.lo at e
 cases hi : nth L.iv i with
 | none => rw [hi] at e; exact h.iv j p e
 | some q =>
  rw [hi] at e
  rcases a1B _ _ _ _ _ e with ⟨rfl, rfl⟩ | ⟨_, e⟩
  ·have := h.iv _ _ hi
   refine ⟨?_, this.2⟩
   cases decide (c <= q.1)
   ·exact hc
   ·exact this.1
  ·exact h.iv j p e
theorem Lf.Holds.within (h : L.Holds rho sig) {i j : Nat} (e : rho i = rho j) : (L.within i j).Holds rho sig := by
 unfold Lf.within
 cases hj : nth L.iv j with
 | none => exact h
 | some p =>
  have := h.iv _ _ hj
  exact (h.lo (by omega)).hi (by omega)
theorem GN {i j : Nat} (e : rho i = rho j) (k : Nat) : rho (ren i j k) = rho k := by
 unfold ren
 cases hk : apw k j
 ·rfl
 ·rw [apu hk]; exact e
theorem Lf.Holds.unify (h : L.Holds rho sig) {i j : Nat} (e : rho i = rho j) : (L.unify i j).Holds rho sig := by
 refine ⟨(h.within e).iv, fun a b m => ?_, fun a b m => ?_, fun a b m => ?_, (h.within e).st, (h.within e).sn, fun m hm => ?_⟩
 ·have m : (a, b) ∈ L.ne.map fun p => (ren i j p.1, ren i j p.2) := m
  obtain ⟨p, hp, e'⟩ := apN.1 m
  cases e'
  rw [GN e, GN e]
  exact h.ne _ _ hp
 ·have m : (a, b) ∈ L.lt.map fun p => (ren i j p.1, ren i j p.2) := m
  obtain ⟨p, hp, e'⟩ := apN.1 m
  cases e'
  rw [GN e, GN e]
  exact h.lt _ _ hp
 ·have m : nth (L.to.map (ren i j)) a = some b := m
  rw [aN, apB] at m
  cases hp : L.to[a]? with
  | none => rw [hp] at m; cases m
  | some p =>
   rw [hp] at m
   cases m
   rw [GN e]
   exact h.to a p (by rw [aN]; exact hp)
 ·have hm : m ∈ L.cf.map fun m => m.map fun p => (ren i j p.1, p.2) := hm
  obtain ⟨m', hm', rfl⟩ := apN.1 hm
  rw [List.all_map]
  rw [<- h.cf m' hm']
  congr 1
  funext p
  simp only [Function.comp, GN e]
theorem Lf.ajh (h : L.Holds rho sig) : L.void = false := by
 unfold Lf.void
 simp only [Bool.or_eq_false_iff, List.any_eq_false]
 refine ⟨⟨fun p hp => ?_, fun p hp => ?_⟩, fun p hp => ?_⟩
 ·obtain ⟨i, hi⟩ := List.getElem?_of_mem hp
  have := h.iv i p (by rw [aN]; exact hi)
  simp
  omega
 ·intro e
  have := h.ne p.1 p.2 hp
  rw [apu e] at this
  exact this rfl
 ·intro e
  have := h.lt p.1 p.2 hp
  rw [apu e] at this
  omega
theorem Lf.Holds.all (h : L.Holds rho sig) : ∀ {l : List (Nat × Int)}, (l.all fun p => decide (rho p.1 = p.2)) = true -> (L.all l).Holds rho sig
 | [], _ => h
 | p :: l, e => by
  simp only [apF, apv, decide_eq_true_eq] at e
  exact ((h.all e.2).hi (by omega)).lo (by omega)
theorem Sp.cover (sp : Sp) : ∀ {L : Lf}, L.Holds rho sig -> ∃ L' ∈ sp.leaves L, L'.Holds rho sig := by
 induction sp with
 | leaf => exact fun {L} h => ⟨L, List.mem_singleton.2 rfl, h⟩
 | void =>
  intro L h
  refine ⟨L, ?_, h⟩
  show L ∈ (bif L.void then [] else [L])
  rw [Lf.ajh h]
  simp
 | cut i c a b ha hb =>
  intro L h
  by_cases e : rho i < c
  ·obtain ⟨L', m, h'⟩ := ha (h.hi (i := i) (c := c - 1) (by omega))
   exact ⟨L', apA.2 (.inl m), h'⟩
  ·obtain ⟨L', m, h'⟩ := hb (h.lo (i := i) (c := c) (by omega))
   exact ⟨L', apA.2 (.inr m), h'⟩
 | eqs i j a b ha hb =>
  intro L h
  by_cases e : rho i = rho j
  ·obtain ⟨L', m, h'⟩ := ha (h.unify e)
   exact ⟨L', apA.2 (.inl m), h'⟩
  ·obtain ⟨L', m, h'⟩ := hb (L := L.differ i j) ⟨h.iv, fun a b m => by
    rcases apL.1 m with e' | m
    ·cases e'; exact e
    ·exact h.ne a b m, h.lt, h.to, h.st, h.sn, h.cf⟩
   exact ⟨L', apA.2 (.inr m), h'⟩
 | tri i j a b c ha hb hc =>
  intro L h
  have hl : ∀ {i j : Nat}, rho i < rho j -> (L.less i j).Holds rho sig := fun {i j} e => ⟨h.iv, h.ne, fun a b m => by
    rcases apL.1 m with e' | m
    ·cases e'; exact e
    ·exact h.lt a b m, h.to, h.st, h.sn, h.cf⟩
  rcases Int.lt_trichotomy (rho i) (rho j) with e | e | e
  ·obtain ⟨L', m, h'⟩ := ha (hl e)
   exact ⟨L', apA.2 (.inl m), h'⟩
  ·obtain ⟨L', m, h'⟩ := hb (h.unify e)
   exact ⟨L', apA.2 (.inr (apA.2 (.inl m))), h'⟩
  ·obtain ⟨L', m, h'⟩ := hc (hl e)
   exact ⟨L', apA.2 (.inr (apA.2 (.inr m))), h'⟩
 | str i l a b ha hb =>
  intro L h
  by_cases e : sig i = bH sig l
  ·obtain ⟨L', m, h'⟩ := ha (L := { L with st := (i, l) :: L.st }) ⟨h.iv, h.ne, h.lt, h.to, fun a b m => by
    rcases apL.1 m with e' | m
    ·cases e'; exact e
    ·exact h.st a b m, h.sn, h.cf⟩
   exact ⟨L', apA.2 (.inl m), h'⟩
  ·obtain ⟨L', m, h'⟩ := hb (L := { L with sn := (i, l) :: L.sn }) ⟨h.iv, h.ne, h.lt, h.to, h.st, fun a b m => by
    rcases apL.1 m with e' | m
    ·cases e'; exact e
    ·exact h.sn a b m, h.cf⟩
   exact ⟨L', apA.2 (.inr m), h'⟩
 | conj l a b ha hb =>
  intro L h
  cases e : l.all fun p => decide (rho p.1 = p.2) with
  | true =>
   obtain ⟨L', m, h'⟩ := ha (h.all e)
   exact ⟨L', apA.2 (.inl m), h'⟩
  | false =>
   obtain ⟨L', m, h'⟩ := hb (L := { L with cf := l :: L.cf }) ⟨h.iv, h.ne, h.lt, h.to, h.st, h.sn, fun m hm => by
    rcases apL.1 hm with e' | hm
    ·rw [e']; exact e
    ·exact h.cf m hm⟩
   exact ⟨L', apA.2 (.inr m), h'⟩
end
abbrev Gp := Bool × List Kd
def cellT (i : Nat) : Kd -> S
 | .b => .xe [(i, 1)]
 | .i k => .xi k i
 | .s => .xs [256 + i]
def bV : Nat -> List Kd -> List S
 | _, [] => []
 | i, k :: ks => cellT i k :: bV (i + 1) ks
def anX (i : Nat) (g : Gp) : A := match g with
 | (false, [k]) => .s (cellT i k)
 | g => .g (bV i g.2)
def a1s : Nat -> List Gp -> List A
 | _, [] => []
 | i, g :: gs => anX i g :: a1s (i + g.2.length) gs
def Kd.iv : Kd -> Int × Int
 | .b => (0, 1)
 | .i k => (k.min, k.max)
 | .s => (0, IntKind.i64.max)
def eu (gs : List Gp) : List Kd := gs.flatMap fun g => g.2
def fD : Nat -> List Kd -> List Nat
 | _, [] => []
 | i, .s :: ks => i :: fD (i + 1) ks
 | i, _ :: ks => fD (i + 1) ks
def Lf.start (gs : List Gp) : Lf := ⟨(eu gs).map Kd.iv, [], [], apO (eu gs).length, [], [], []⟩
def bf (v : Value) : Int := match v with | .int _ n => n | .bool b => if b then 1 else 0 | .string s => s.size | _ => 0
def jS : Nat -> Nat -> List UInt8 -> List UInt8
 | 0, _, acc => acc
 | f + 1, u, acc => bif apC u 10 then UInt8.ofNat (48 + u) :: acc else jS f (u / 10) (UInt8.ofNat (48 + u % 10) :: acc)
def bM (n : Int) : List UInt8 := match n with
 | .ofNat u => jS 20 u []
 | .negSucc u => 45 :: jS 20 (u + 1) []
theorem PW : ∀ (f u : Nat) (acc : List UInt8), (jS f u acc).length <= f + acc.length
 | 0, _, acc => by simp [jS]
 | f + 1, u, acc => by
  rw [jS]
  cases apC u 10
  ·have := PW f (u / 10) (UInt8.ofNat (48 + u % 10) :: acc)
   simp only [cond_false, apS] at this |-
   omega
  ·simp only [cond_true, apS]
   omega
theorem dY (n : Int) : (bM n).length <= 21 := by
 unfold bM
 split
 ·have := PW 20 (by assumption) []
  simp only [aq1] at this
  omega
 ·rename_i u
  have := PW 20 (u + 1) []
  simp only [aq1, apS] at this |-
  omega
def mQ (v : Value) : List UInt8 := match v with | .string s => s.data.toList | .int _ n => bM n | _ => []
noncomputable def dw (cs : List Value) : Nat -> Int := GX (cs.map bf)
noncomputable def fG (cs : List Value) : Nat -> List UInt8 := P6 (cs.map mQ)
def anZ (g : Gp) (v : Value) (us : List Value) : Prop := ak Kd.ok g.2 us /\ ((g.1 = true /\ v = .agg us.toArray) \/ (g.1 = false /\ us = [v]))
def Gps : List Gp -> List Value -> List Value -> Prop
 | [], [], cs => cs = []
 | g :: gs, v :: vs, cs => ∃ us cs', cs = us ++ cs' /\ anZ g v us /\ Gps gs vs cs'
 | _, _, _ => False
theorem aex (pre post : List Value) (v : Value) : dw (pre ++ v :: post) pre.length = bf v := by simp [dw, GX, aN]
theorem a8G (pre post : List Value) (v : Value) : fG (pre ++ v :: post) pre.length = mQ v := by simp [fG, P6, aN]
theorem agA [Base] {r : Ren} {k : Kd} {v : Value} (h : k.ok v) {i : Nat} (h1 : Base.rho i = bf v) (h2 : Base.sig i = mQ v) : VS r (cellT i k) v := by
 cases k with
 | b => obtain ⟨b, rfl⟩ := h; cases b <;> simp [cellT, VS, h1, bf]
 | i k => obtain ⟨n, rfl, _⟩ := h; show _ = _; rw [h1]; rfl
 | s =>
  obtain ⟨s, rfl, _⟩ := h
  show _ = _
  rw [gU, h2]
  rfl
theorem kL [Base] {r : Ren} {cs : List Value} (h1 : Base.rho = dw cs) (h2 : Base.sig = fG cs) : ∀ {ks : List Kd} {us pre post : List Value}, cs = pre ++ (us ++ post) -> ak Kd.ok ks us -> ak (VS r) (bV pre.length ks) us
 | [], [], _, _, _, _ => trivial
 | k :: ks, u :: us, pre, post, e, h => by
  refine ⟨agA h.1 ?_ ?_, ?_⟩
  ·rw [h1, e]; exact aex _ _ _
  ·rw [h2, e]; exact a8G _ _ _
  ·have := kL (r := r) h1 h2 (ks := ks) (us := us) (pre := pre ++ [u]) (post := post) (by simp [e]) h.2
   simpa using this
 | [], _ :: _, _, _, _, h => h.elim
 | _ :: _, [], _, _, _, h => h.elim
theorem ai2 [Base] {r : Ren} {cs : List Value} (h1 : Base.rho = dw cs) (h2 : Base.sig = fG cs) {g : Gp} {v : Value} {us pre post : List Value} (e : cs = pre ++ (us ++ post)) (h : anZ g v us) : VA r (anX pre.length g) v := by
 obtain ⟨hk, h⟩ := h
 have hc := kL (r := r) h1 h2 e hk
 obtain ⟨b, ks⟩ := g
 rcases h with ⟨hb, rfl⟩ | ⟨hb, rfl⟩
 ·simp only at hb
  subst hb
  exact ⟨us, rfl, hc⟩
 ·simp only at hb
  subst hb
  match ks, hk, hc with
  | [k], _, hc => exact hc.1
theorem yS [Base] {r : Ren} {cs : List Value} (h1 : Base.rho = dw cs) (h2 : Base.sig = fG cs) (post : List Value) : ∀ {gs : List Gp} {vs pre cs' : List Value}, cs = pre ++ (cs' ++ post) -> Gps gs vs cs' -> ak (VA r) (a1s pre.length gs) vs
 | [], [], _, _, _, _ => trivial
 | g :: gs, v :: vs, pre, cs', e, h => by
  obtain ⟨us, cs'', rfl, hg, h⟩ := h
  refine ⟨ai2 (post := cs'' ++ post) h1 h2 (by rw [e]; simp) hg, ?_⟩
  have := yS (r := r) h1 h2 post (gs := gs) (vs := vs) (pre := pre ++ us) (cs' := cs'') (by simp [e]) h
  rw [List.length_append, <- hg.1.len] at this
  exact this
 | [], _ :: _, _, _, _, h => h.elim
 | _ :: _, [], _, _, _, h => h.elim
theorem Gps.kinds : ∀ {gs : List Gp} {vs cs : List Value}, Gps gs vs cs -> ak Kd.ok (eu gs) cs
 | [], [], cs, h => by cases h; trivial
 | g :: gs, v :: vs, cs, h => by
  obtain ⟨us, cs', rfl, hg, h⟩ := h
  exact hg.1.app h.kinds
 | [], _ :: _, _, h => h.elim
 | _ :: _, [], _, h => h.elim
theorem Kd.Iu {k : Kd} {v : Value} (h : k.ok v) : k.iv.1 <= bf v /\ bf v <= k.iv.2 := by
 cases k with
 | b => obtain ⟨b, rfl⟩ := h; cases b <;> decide
 | i k => obtain ⟨n, rfl, h⟩ := h; exact h
 | s => obtain ⟨s, rfl, h⟩ := h; exact ⟨by simp [Kd.iv, bf], h⟩
theorem Lf.FQ {gs : List Gp} {vs cs : List Value} (h : Gps gs vs cs) : (Lf.start gs).Holds (dw cs) (fG cs) where
 iv i p e := by
  have e : nth ((eu gs).map Kd.iv) i = some p := e
  rw [aN, apB] at e
  cases hk : (eu gs)[i]? with
  | none => rw [hk] at e; cases e
  | some k =>
   rw [hk] at e
   cases e
   obtain ⟨v, hv, hkv⟩ := ak.nth h.kinds (n := i) (x := k) (by rw [aN]; exact hk)
   have := Kd.Iu hkv
   simpa [dw, GX, aN, hv] using this
 ne _ _ e := by cases e
 lt _ _ e := by cases e
 to i j e := by
  have e : nth (apO (eu gs).length) i = some j := e
  rw [aN] at e
  obtain ⟨_, e⟩ := apz.1 e
  simp at e
  rw [e]
 st _ _ e := by cases e
 sn _ _ e := by cases e
 cf _ e := by cases e
theorem uM : ∀ {ks : List Kd} {o i : Nat}, i ∈ fD o ks -> ∃ j, i = o + j /\ ks[j]? = some .s
 | [], _, _, h => by cases h
 | .s :: ks, o, i, h => by
  rcases apL.1 h with rfl | h
  ·exact ⟨0, rfl, rfl⟩
  ·obtain ⟨j, rfl, h'⟩ := uM h
   exact ⟨j + 1, by omega, h'⟩
 | .b :: ks, o, i, h => by
  obtain ⟨j, rfl, h'⟩ := uM (ks := ks) (o := o + 1) h
  exact ⟨j + 1, by omega, h'⟩
 | .i _ :: ks, o, i, h => by
  obtain ⟨j, rfl, h'⟩ := uM (ks := ks) (o := o + 1) h
  exact ⟨j + 1, by omega, h'⟩
def Dec (ks : List Kd) (rho : Nat -> Int) (sig : Nat -> List UInt8) : Prop := ∀ i, nth ks i = some (.i .i64) -> sig i = bM (rho i) /\ IntKind.i64.min <= rho i /\ rho i <= IntKind.i64.max
theorem aaL {gs : List Gp} {vs cs : List Value} (h : Gps gs vs cs) : Dec (eu gs) (dw cs) (fG cs) := fun i hi => by
 obtain ⟨v, hv, hk⟩ := ak.nth h.kinds hi
 obtain ⟨n, rfl, h1, h2⟩ := hk
 have e1 : dw cs i = n := by simp [dw, GX, aN, hv, bf]
 have e2 : fG cs i = bM n := by simp [fG, P6, aN, hv, mQ]
 rw [e1, e2]
 exact ⟨rfl, h1, h2⟩
theorem SA : ∀ {ks : List Kd} {o i : Nat}, ks[i]? = some .s -> o + i ∈ fD o ks
 | [], _, _, h => by simp at h
 | k :: ks, o, 0, h => by
  simp only [List.getElem?_cons_zero, Option.some.injEq] at h
  subst h
  exact apM ..
 | k :: ks, o, i + 1, h => by
  have := SA (ks := ks) (o := o + 1) (i := i) (by simpa using h)
  rw [show o + 1 + i = o + (i + 1) by omega] at this
  cases k with
  | s => exact apI _ this
  | b => exact this
  | i _ => exact this
theorem WG {k : Kd} {v : Value} (h : k.ok v) (hk : k ≠ .s) : (mQ v).length <= 21 := by
 cases k with
 | b => obtain ⟨b, rfl⟩ := h; simp [mQ]
 | i k => obtain ⟨n, rfl, _⟩ := h; exact dY n
 | s => exact absurd rfl hk
theorem JW {gs : List Gp} {vs cs : List Value} (h : Gps gs vs cs) : Lens (fD 0 (eu gs)) (dw cs) (fG cs) where
 all i hi := by
  simp only [fG, P6, aN, apB]
  cases hv : cs[i]? with
  | none => simp
  | some v =>
   have hlt := (apz.1 hv).1
   have hl := h.kinds.len
   have hk : (eu gs)[i]? = some ((eu gs)[i]'(by omega)) := apJ _
   obtain ⟨v', hv', hok⟩ := ak.nth h.kinds (n := i) (by rw [aN]; exact hk)
   rw [hv] at hv'
   cases hv'
   refine WG hok fun e => hi ?_
   rw [e] at hk
   simpa using SA (o := 0) hk
 ss i hi := by
  obtain ⟨j, rfl, hj⟩ := uM hi
  rw [Nat.zero_add]
  obtain ⟨v, hv, hk⟩ := ak.nth h.kinds (n := j) (x := .s) (by rw [aN]; exact hj)
  obtain ⟨s, rfl, _⟩ := hk
  simp [fG, dw, P6, GX, aN, hv, bf, mQ]
theorem Zb {P : Program} {w : World} {r : Reach} {b : Nat} {t : TypeId} {v : Value} {kd : Kd} (hk : OO P t = some kd) (h : Value.okWide P w r b t v) : kd.ok v := by
 have hk' := hk
 unfold OO at hk
 split at hk <;> cases hk <;> rename_i hu <;> exact ane hk' (by simpa [Value.okWide, hu] using h)
def Lf.KI (gs : List Gp) (m : Nat) : Lf := ⟨(eu gs).map Kd.iv ++ List.replicate m (0, 21), [], [], apO ((eu gs).length + m), [], [], []⟩
def jP (cs : List Value) (xs : List (List UInt8)) : List Value := cs ++ xs.map fun x => .string ⟨x.toArray⟩
theorem a07 {α : Type} {a b : List α} {i : Nat} (h : i < a.length) : nth (a ++ b) i = nth a i := by rw [aN, aN, apy h]
theorem Lf.QZ {gs : List Gp} {vs cs : List Value} (h : Gps gs vs cs) {xs : List (List UInt8)} (hl : ∀ x, x ∈ xs -> x.length <= 21) : (Lf.KI gs xs.length).Holds (dw (jP cs xs)) (fG (jP cs xs)) where
 iv i p e := by
  have e : nth ((eu gs).map Kd.iv ++ List.replicate xs.length (0, 21)) i = some p := e
  have hlen : ((eu gs).map Kd.iv).length = cs.length := by rw [apG]; exact h.kinds.len
  by_cases hi : i < cs.length
  ·rw [a07 (by omega)] at e
   have h0 := (Lf.FQ h).iv i p e
   have hr : dw (jP cs xs) i = dw cs i := by
    simp only [dw, GX, jP, apH, aN]
    rw [apy (by simpa using hi)]
   rw [hr]
   exact h0
  ·rw [aN, apx (by omega)] at e
   obtain ⟨hk, e⟩ := apz.1 e
   simp only [List.getElem_replicate] at e
   subst e
   rw [List.length_replicate] at hk
   have hx : xs[i - cs.length]? = some (xs[i - cs.length]'(by omega)) := apJ _
   have hr : dw (jP cs xs) i = ((xs[i - cs.length]'(by omega)).length : Int) := by
    simp only [dw, GX, jP, apH, aN, apX]
    rw [apx (by simp; omega), apB, apG, hx]
    simp [bf, ByteArray.size]
   rw [hr]
   have := hl _ (apW hx)
   simp only
   omega
 ne _ _ e := by cases e
 lt _ _ e := by cases e
 to i j e := by
  have e : nth (apO ((eu gs).length + xs.length)) i = some j := e
  rw [aN] at e
  obtain ⟨_, e⟩ := apz.1 e
  simp at e
  rw [e]
 st _ _ e := by cases e
 sn _ _ e := by cases e
 cf _ e := by cases e
theorem o7 {cs : List Value} {xs : List (List UInt8)} {i : Nat} (hi : i < cs.length) : dw (jP cs xs) i = dw cs i := by
 simp only [dw, GX, jP, apH, aN]
 rw [apy (by simpa using hi)]
theorem FU {cs : List Value} {xs : List (List UInt8)} {i : Nat} (hi : i < cs.length) : fG (jP cs xs) i = fG cs i := by
 simp only [fG, P6, jP, apH, aN]
 rw [apy (by simpa using hi)]
theorem akB {cs : List Value} {xs : List (List UInt8)} {j : Nat} {x : List UInt8} (h : xs[j]? = some x) : fG (jP cs xs) (cs.length + j) = x := by
 simp only [fG, P6, jP, apH, aN, apX]
 rw [apx (by simp), apB, apG, show cs.length + j - cs.length = j by omega, h]
 simp [mQ]
theorem MV {gs : List Gp} {vs cs : List Value} (h : Gps gs vs cs) {xs : List (List UInt8)} (hl : ∀ x, x ∈ xs -> x.length <= 21) : Lens (fD 0 (eu gs)) (dw (jP cs xs)) (fG (jP cs xs)) where
 all i hi := by
  by_cases hlt : i < cs.length
  ·rw [FU hlt]
   exact (JW h).all i hi
  ·obtain ⟨j, rfl⟩ : ∃ j, i = cs.length + j := ⟨i - cs.length, by omega⟩
   cases hx : xs[j]? with
   | some x =>
    rw [akB hx]
    exact hl x (apW hx)
   | none =>
    simp only [fG, P6, jP, apH, aN, apX]
    rw [apx (by simp), apB, apG, show cs.length + j - cs.length = j by omega, hx]
    simp
 ss i hi := by
  have hlt : i < cs.length := by
   obtain ⟨j, rfl, hj⟩ := uM hi
   have := (apz.1 hj).1
   have := h.kinds.len
   omega
  rw [o7 hlt, FU hlt]
  exact (JW h).ss i hi
theorem QJ {gs : List Gp} {vs cs : List Value} (h : Gps gs vs cs) (xs : List (List UInt8)) : Dec (eu gs) (dw (jP cs xs)) (fG (jP cs xs)) := fun i hi => by
 have hlt : i < cs.length := by
  rw [aN] at hi
  have := (apz.1 hi).1
  have := h.kinds.len
  omega
 rw [o7 hlt, FU hlt]
 exact aaL h i hi
end
noncomputable section
def a2C : Option Nat -> Option Nat -> Bool
 | none, none => true
 | some a, some b => apw a b
 | _, _ => false
def S.eqv (x y : S) : Bool :=
 match x, y with
 | .ptr l o, .ptr l' o' => apw l l' && apw o o'
 | .sl l o n z c, .sl l' o' n' z' c' => apw l l' && apw o o' && apw n n' && apw z z' && a2C c c'
 | .sle, .sle => true
 | .xe l, .xe m => BA l m
 | x, y => x.same y
def A.eqv (x y : A) : Bool := match x, y with | .s x, .s y => x.eqv y | .g l, .g m => iE S.eqv l m | _, _ => false
def V.same (x y : V) : Bool := match x, y with | .a x, .a y => x.same y | .t l, .t m => iE A.same l m | _, _ => false
def vY (v : V) (r : R) : Bool := Option.rec false (fun p => V.same p.1 v) r
variable [Base]
theorem S.vJ {x y : S} (h : x.eqv y = true) : x = y := by
 unfold S.eqv at h
 split at h
 ·simp only [apv] at h
  rw [apu h.1, apu h.2]
 ·simp only [apv] at h
  obtain ⟨⟨⟨⟨h1, h2⟩, h3⟩, h4⟩, h5⟩ := h
  rw [apu h1, apu h2, apu h3, apu h4]
  congr 1
  unfold a2C at h5
  split at h5
  ·rfl
  ·rw [apu h5]
  ·cases h5
 ·rfl
 ·rw [uq h]
 ·exact (S.jO h).1
theorem O4 {α : Type} {f : α -> α -> Bool} (hf : ∀ x y, f x y = true -> x = y) {l m : List α} (h : iE f l m = true) : l = m :=
 (Oc (g := fun _ => true) (fun x y e => ⟨hf x y e, rfl⟩) h).1
theorem V.jO {x y : V} (h : V.same x y = true) : x = y := by
 unfold V.same at h
 split at h
 ·rw [(A.jO h).1]
 ·rw [O4 (fun _ _ h => (A.jO h).1) h]
 ·cases h
theorem aau : ∀ {m : Hp} {l : Nat} {b : Blk}, Hp.get m l = some b -> (l, b) ∈ m
 | [], _, _, h => by cases h
 | p :: m, l, b, h => by
  rw [Hp.gy] at h
  cases e : (p.1 == l) <;> rw [e] at h <;> simp only [cond_true, cond_false] at h
  ·exact apI _ (aau h)
  ·cases h
   have e' : p.1 = l := by simpa using e
   rw [<- e']
   exact apM ..
end
noncomputable section
section
variable [Know]
end
variable [Base]
end
variable [Base]
section
variable {h : Heap} {r : Ren} {B fl : Nat} {w w1 : World}
end
end Am
namespace Am
open Go.RowKit
noncomputable section
def a1S : List (Nat × Nat) -> List (Nat × Nat) -> Bool
 | [], [] => true
 | a :: r, b :: s => apw a.1 b.1 && apw a.2 b.2 && a1S r s
 | _, _ => false
def S.eqb (x y : S) : Bool :=
 match x, y with
 | .ptr l o, .ptr l' o' => apw l l' && apw o o'
 | .sl l o n z c, .sl l' o' n' z' c' => apw l l' && apw o o' && apw n n' && apw z z' && a2C c c'
 | .sle, .sle => true
 | .fn f cs, .fn g ds => apw f g && a1S cs ds
 | .xe l, .xe m => BA l m
 | .xa l b, .xa m c => BA l m && b == c
 | .px l o n i, .px l' o' n' i' => apw l l' && apw o o' && apw n n' && apw i i'
 | .rv k, .rv j => apw k j
 | .pe k i o, .pe j i' o' => apw k j && i.eqv i' && apw o o'
 | x, y => x.same y
theorem Yb : ∀ {a b : List (Nat × Nat)}, a1S a b = true -> a = b
 | [], [], _ => rfl
 | a :: r, b :: s, h => by
  simp only [a1S, apv] at h
  obtain ⟨⟨h1, h2⟩, h3⟩ := h
  rw [Yb h3, Prod.ext (apu h1) (apu h2)]
 | [], _ :: _, h => by cases h
 | _ :: _, [], h => by cases h
theorem N.vJ {a b : N} (h : a.eqv b = true) : a = b := by
 cases a <;> cases b <;> simp [N.eqv] at h <;> rw [h]
theorem S.sO {x y : S} (h : x.eqb y = true) : x = y := by
 letI : Base := Base.known Know.nought (aG.nought (fun _ => 0) (fun _ => [])) 0 default
 unfold S.eqb at h
 split at h
 ·simp only [apv] at h
  rw [apu h.1, apu h.2]
 ·simp only [apv] at h
  obtain ⟨⟨⟨⟨h1, h2⟩, h3⟩, h4⟩, h5⟩ := h
  rw [apu h1, apu h2, apu h3, apu h4]
  congr 1
  unfold a2C at h5
  split at h5
  ·rfl
  ·rw [apu h5]
  ·cases h5
 ·rfl
 ·simp only [apv] at h
  rw [apu h.1, Yb h.2]
 ·rw [uq h]
 ·simp only [apv, beq_iff_eq] at h
  rw [uq h.1, h.2]
 ·simp only [apv] at h
  obtain ⟨⟨⟨h1, h2⟩, h3⟩, h4⟩ := h
  rw [apu h1, apu h2, apu h3, apu h4]
 ·rw [apu h]
 ·simp only [apv] at h
  rw [apu h.1.1, N.vJ h.1.2, apu h.2]
 ·exact (S.jO h).1
structure Bd where
 n : Nat
 s : Nat
 l : Nat
def N.below (b : Nat) (a : N) : Bool := match a with | .c _ => true | .x i => apC i b
def S.below (d : Bd) (x : S) : Bool := match x with
 | .xi _ i => apC i d.n
 | .xs l => l.all fun n => apC n (256 + d.s)
 | .xe l => l.all fun p => apC p.1 d.n
 | .xa l _ => l.all fun p => apC p.1 d.n
 | .px _ _ _ i => apC i d.n
 | .rv k => apC k d.l
 | .pe k i _ => apC k d.l && i.below d.n
 | _ => true
abbrev Th := List (S × S)
def S.akV (x : S) : Bool := match x with | .top => true | _ => false
def a6S (d : Bd) (m : Nat) (th : Th) (y x : S) : Bool := y.refs.all (fun l => apC l m) && (y.akV || ((y.below d && y.eqb x) || th.any fun p => p.1.eqb y && p.2.eqb x))
def akt (d : Bd) (m : Nat) (th : Th) (y x : A) : Bool := match y, x with | .s y, .s x => a6S d m th y x | .g l, .g k => iE (a6S d m th) l k | _, _ => false
def amQ (d : Bd) (m : Nat) (th : Th) (y x : V) : Bool := match y, x with | .any, _ => true | .a y, .a x => akt d m th y x | .t l, .t k => iE (akt d m th) l k | _, _ => false
def amo (d : Bd) (m : Nat) (th : Th) (b c : Blk) : Bool := (bif b.own then c.own else !c.own) && iE (a6S d m th) b.cells c.cells
def wG (d : Bd) (th : Th) (hd s : St) : Bool :=
 iE (amQ d hd.h.next th) hd.fr s.fr && hd.h.m.all (fun p => apC p.1 hd.h.next && Option.rec false (fun b => amo d hd.h.next th p.2 b) (Hp.get s.h.m p.1)) && Nat.ble hd.h.next s.h.next
structure Agree (b1 b2 : Base) (d : Bd) : Prop where
 nb : b1.nb = b2.nb
 g : b1.g = b2.g
 n : ∀ i, i < d.n -> b1.rho i = b2.rho i
 s : ∀ i, i < d.s -> b1.sig i = b2.sig i
 l : ∀ i, i < d.l -> b1.lst i = b2.lst i
variable {b1 b2 : Base} {d : Bd}
theorem DJ {α : Type} {f g : α -> Bool} : ∀ {l : List α}, (∀ x ∈ l, f x = g x) -> l.all f = l.all g
 | [], _ => rfl
 | x :: l, h => by rw [apF, apF, h x (by simp), DJ fun y hy => h y (by simp [hy])]
theorem KW {α : Type} {f g : α -> Bool} : ∀ {l : List α}, (∀ x ∈ l, f x = g x) -> l.any f = l.any g
 | [], _ => rfl
 | x :: l, h => by rw [List.any_cons, List.any_cons, h x (by simp), KW fun y hy => h y (by simp [hy])]
theorem O0 (ag : Agree b1 b2 d) : ∀ {l : List Nat}, (l.all fun n => apC n (256 + d.s)) = true -> bH b1.sig l = bH b2.sig l
 | [], _ => rfl
 | n :: l, h => by
  simp only [apF, apv, apE] at h
  simp only [bH, O0 ag h.2]
  congr 1
  cases hn : apC n 256
  ·have h0 : ¬ n < 256 := by rw [<- apE, hn]; simp
   simp only [cond_false]
   exact ag.s _ (by omega)
  ·rfl
theorem VS.agree (ag : Agree b1 b2 d) {r : Ren} {x : S} (hx : x.below d = true) {v : Value} (h : @VS b1 r x v) : @VS b2 r x v := by
 cases x with
 | xi k i =>
  have hx : apC i d.n = true := hx
  have h : v = .int k (b1.rho i) := h
  show v = .int k (b2.rho i)
  rw [h, ag.n i (by rwa [apE] at hx)]
 | xs l =>
  have h : v = .string ⟨(bH b1.sig l).toArray⟩ := h
  show v = .string ⟨(bH b2.sig l).toArray⟩
  rw [h, O0 ag hx]
 | xe l =>
  have h : v = .bool (l.any fun p => decide (b1.rho p.1 = p.2)) := h
  show v = .bool (l.any fun p => decide (b2.rho p.1 = p.2))
  rw [h]
  congr 1
  refine KW fun p hp => ?_
  have := apK.1 (show (l.all fun p => apC p.1 d.n) = true from hx) p hp
  rw [ag.n p.1 (by rwa [apE] at this)]
 | xa l c =>
  have h : v = .bool ((l.all fun p => decide (b1.rho p.1 = p.2)) == c) := h
  show v = .bool ((l.all fun p => decide (b2.rho p.1 = p.2)) == c)
  rw [h]
  congr 2
  refine DJ fun p hp => ?_
  have := apK.1 (show (l.all fun p => apC p.1 d.n) = true from hx) p hp
  rw [ag.n p.1 (by rwa [apE] at this)]
 | px l o n i =>
  have hx : apC i d.n = true := hx
  have h : r.ok l /\ 0 <= b1.rho i /\ b1.rho i < n /\ v = .pointer (some (r.at l (o + (b1.rho i).toNat))) := h
  show r.ok l /\ 0 <= b2.rho i /\ b2.rho i < n /\ v = .pointer (some (r.at l (o + (b2.rho i).toNat)))
  rwa [<- ag.n i (by rwa [apE] at hx)]
 | rv k =>
  have hx : apC k d.l = true := hx
  have h : ∃ A n c, (b1.lst k).v = .slice A n c /\ v = .slice A n c := h
  show ∃ A n c, (b2.lst k).v = .slice A n c /\ v = .slice A n c
  rwa [<- ag.l k (by rwa [apE] at hx)]
 | pe k i o =>
  have hx : (apC k d.l && i.below d.n) = true := hx
  simp only [apv, apE] at hx
  obtain ⟨b, off, el, ⟨h1, h2⟩, h3⟩ := h
  have e : @NV b1 i = @NV b2 i := by
   cases i with
   | c n => rfl
   | x i => exact ag.n i (by have := hx.2; simpa [N.below, apE] using this)
  refine ⟨b, off, el, ⟨by rw [<- ag.l k hx.1, <- e]; exact h1, fun f u hf w hw => h2 f u hf w fun c hc => ?_⟩, h3⟩
  have hc : c < b1.nb := hc
  show w.heap[c]? = b1.g c
  rw [ag.g]
  exact hw c (by show c < b2.nb; rw [<- ag.nb]; exact hc)
 | sl l o n z c => cases c <;> exact h
 | _ => exact h
def Th.ok (b1 b2 : Base) (th : Th) : Prop := ∀ p ∈ th, ∀ r v, @VS b1 r p.2 v -> @VS b2 r p.1 v
theorem VS.ap3 [Base] {r : Ren} {m : Nat} {x : S} {v : Value} (hx : (x.refs.all fun l => apC l m) = true) (h : VS r x v) : VS (r.cut m) x v := by
 cases x with
 | ptr l o =>
  simp only [S.refs, apF, apv, apE] at hx
  exact ⟨⟨h.1, hx.1⟩, h.2⟩
 | px l o n i =>
  simp only [S.refs, apF, apv, apE] at hx
  exact ⟨⟨h.1, hx.1⟩, h.2⟩
 | sl l o n z c =>
  simp only [S.refs, apF, apv, apE] at hx
  cases c with
  | none => exact ⟨⟨h.1, hx.1⟩, h.2⟩
  | some c => exact ⟨⟨h.1, hx.1⟩, h.2⟩
 | fn f cs =>
  refine ⟨fun p hp => ⟨h.1 p hp, ?_⟩, h.2⟩
  have := apK.1 hx p.1 (by simp only [S.refs]; exact apN.2 ⟨p, hp, rfl⟩)
  rwa [apE] at this
 | _ => exact h
theorem JY (ag : Agree b1 b2 d) {th : Th} (ht : Th.ok b1 b2 th) {m : Nat} {y x : S} (h : a6S d m th y x = true) {r : Ren} {v : Value} (hv : @VS b1 r x v) : @VS b2 (r.cut m) y v := by
 unfold a6S at h
 simp only [apv, apZ] at h
 obtain ⟨h0, h⟩ := h
 refine @VS.ap3 b2 _ _ _ _ h0 ?_
 rcases h with h | ⟨h1, h2⟩ | h
 ·cases y <;> simp [S.akV] at h
  exact @VS.one b1 _ _ _ hv
 ·rw [S.sO h2] at h1 |-
  exact VS.agree ag h1 hv
 ·obtain ⟨p, hp, h⟩ := List.any_eq_true.1 h
  simp only [apv] at h
  have := ht p hp r v (by rw [S.sO h.2]; exact hv)
  rwa [S.sO h.1] at this
theorem vk {α β : Type} {f : α -> α -> Bool} {R R' : α -> β -> Prop} (hf : ∀ y x v, f y x = true -> R x v -> R' y v) : ∀ {l k : List α} {vs : List β}, iE f l k = true -> ak R k vs -> ak R' l vs
 | [], [], [], _, _ => trivial
 | y :: l, x :: k, v :: vs, h, hv => by
  simp only [iE, apv] at h
  exact ⟨hf y x v h.1 hv.1, vk hf h.2 hv.2⟩
 | [], [], _ :: _, _, hv => hv.elim
 | _ :: _, _ :: _, [], _, hv => hv.elim
 | [], _ :: _, _, h, _ => by cases h
 | _ :: _, [], _, h, _ => by cases h
theorem a1z (ag : Agree b1 b2 d) {th : Th} (ht : Th.ok b1 b2 th) {m : Nat} {y x : A} (h : akt d m th y x = true) {r : Ren} {v : Value} (hv : @VA b1 r x v) : @VA b2 (r.cut m) y v := by
 unfold akt at h
 split at h
 ·exact JY ag ht h hv
 ·obtain ⟨vs, e, hv⟩ := hv
  exact ⟨vs, e, vk (R := @VS b1 r) (R' := @VS b2 (r.cut m)) (fun y x v h hv => JY ag ht h hv) h hv⟩
 ·cases h
theorem ajd (ag : Agree b1 b2 d) {th : Th} (ht : Th.ok b1 b2 th) {m : Nat} {y x : V} (h : amQ d m th y x = true) {r : Ren} {v : Value} (hv : @VV b1 r x v) : @VV b2 (r.cut m) y v := by
 unfold amQ at h
 split at h
 ·trivial
 ·exact a1z ag ht h hv
 ·obtain ⟨vs, e, hv⟩ := hv
  exact ⟨vs, e, vk (R := @VA b1 r) (R' := @VA b2 (r.cut m)) (fun y x v h hv => a1z ag ht h hv) h hv⟩
 ·cases h
theorem Ho {α : Type} {f : α -> α -> Bool} : ∀ {l k : List α}, iE f l k = true -> ∀ i y, nth l i = some y -> ∃ x, nth k i = some x /\ f y x = true
 | [], [], _, i, y, h => by simp [DU] at h
 | a :: l, b :: k, h, 0, y, e => by
  simp only [iE, apv] at h
  simp only [oq, Option.some.injEq] at e
  subst e
  exact ⟨b, rfl, h.1⟩
 | a :: l, b :: k, h, i + 1, y, e => by
  simp only [iE, apv] at h
  exact Ho h.2 i y e
 | [], _ :: _, h, _, _, _ => by cases h
 | _ :: _, [], h, _, _, _ => by cases h
structure Parts (bb : Base) (s : St) (r : Ren) (B : Nat) (a : Act) (w : World) : Prop where
 f : ak (@VV bb r) s.fr a.tmps.toList
 n : ∀ l, r.ok l -> l < s.h.next
 b : B <= w.heap.size
 dom : ∀ l k, s.h.get l = some k -> r.ok l
 own : ∀ l k, s.h.get l = some k -> k.own = true -> B <= r.blk l /\ r.off l = 0 /\ ∃ C T fz, w.heap[r.blk l]? = some (.cells C T fz) /\ C.size = r.cap l /\
  (∀ i, i <= C.size -> (fz.1 <= i && i < fz.2) = false) /\ ∀ i x, nth k.cells i = some x -> ∃ u, C[i]? = some u /\ @VS bb r x u
 ro : ∀ l k, s.h.get l = some k -> k.own = false -> r.blk l < B /\ ∀ i x, nth k.cells i = some x -> ∃ u, w.cell? (r.at l i) = some u /\ @VS bb r x u
 inj : ∀ l k l' k', s.h.get l = some k -> k.own = true -> s.h.get l' = some k' -> k'.own = true -> r.blk l = r.blk l' -> l = l'
 nb : bb.nb <= B
 z : ∀ c, c < bb.nb -> w.heap[c]? = bb.g c
omit b1 b2 in
theorem Rel.parts [b : Base] {s : St} {r : Ren} {B : Nat} {a : Act} {w : World} (h : Rel s r B a w) : Parts b s r B a w :=
 ⟨h.f, h.i.n, h.i.b, h.i.hr.dom, h.i.hr.own, h.i.hr.ro, h.i.hr.inj, h.i.hr.nb, h.i.hr.z⟩
theorem xJ (ag : Agree b1 b2 d) {th : Th} (ht : Th.ok b1 b2 th) {hd s : St} (h : wG d th hd s = true) {r : Ren} {B : Nat} {a : Act} {w : World} (hr : @Rel b1 s r B a w) :
  @Rel b2 hd (r.cut hd.h.next) B a w /\ ∀ {fl : Nat} {h0 : Heap} {r0 : Ren} {w0 : World}, (∀ l, r0.ok l -> l < h0.next) -> h0.next = hd.h.next -> Adv fl h0 r0 w0 s.h r w ->
   (∀ l, l < h0.next -> l < fl -> hd.h.get l = h0.get l) -> Adv fl h0 r0 w0 hd.h (r.cut hd.h.next) w := by
 unfold wG at h
 simp only [apv] at h
 obtain ⟨⟨hfr, hm⟩, hn⟩ := h
 have hn := Nat.le_of_ble_eq_true hn
 have hget : ∀ l b, hd.h.get l = some b -> l < hd.h.next /\ ∃ c, s.h.get l = some c /\ b.own = c.own /\ iE (a6S d hd.h.next th) b.cells c.cells = true := fun l b hb => by
  have := apK.1 hm (l, b) (aau hb)
  simp only [apv, apE] at this
  obtain ⟨h1, h2⟩ := this
  refine ⟨h1, ?_⟩
  cases hc : Hp.get s.h.m l with
  | none => rw [hc] at h2; cases h2
  | some c =>
   rw [hc] at h2
   have h2 : amo d hd.h.next th b c = true := h2
   unfold amo at h2
   simp only [apv] at h2
   refine ⟨c, hc, ?_, h2.2⟩
   have h3 := h2.1
   cases hb' : b.own <;> cases hc' : c.own <;> rw [hb', hc'] at h3 <;> simp at h3 <;> rfl
 obtain ⟨hf0, pn, pb, pdom, pown, pro, pinj, pnb, pz⟩ := @Rel.parts b1 _ _ _ _ _ hr
 have hok : ∀ l b, hd.h.get l = some b -> (r.cut hd.h.next).ok l := fun l b hb => by
  obtain ⟨h1, c, h2, _⟩ := hget l b hb
  exact ⟨pdom l c h2, h1⟩
 constructor
 ·refine ⟨vk (R := @VV b1 r) (R' := @VV b2 (r.cut hd.h.next)) (fun y x v h hv => ajd ag ht h hv) hfr hf0, ⟨fun l hl => hl.2, pb, ⟨hok, fun l b hb ho => ?_, fun l b hb ho => ?_, fun l b l' b' e1 o1 e2 o2 e => ?_, ?_, ?_⟩⟩⟩
  ·obtain ⟨_, c, h2, h3, h4⟩ := hget l b hb
   obtain ⟨q1, q2, C, T, fz, q3, q4, q5, q6⟩ := pown l c h2 (h3 ▸ ho)
   refine ⟨q1, q2, C, T, fz, q3, q4, q5, fun i x hx => ?_⟩
   obtain ⟨x', hx', hf⟩ := Ho h4 i x hx
   obtain ⟨u, hu, hv⟩ := q6 i x' hx'
   exact ⟨u, hu, JY ag ht hf hv⟩
  ·obtain ⟨_, c, h2, h3, h4⟩ := hget l b hb
   obtain ⟨q1, q2⟩ := pro l c h2 (by rw [<- h3]; exact ho)
   refine ⟨q1, fun i x hx => ?_⟩
   obtain ⟨x', hx', hf⟩ := Ho h4 i x hx
   obtain ⟨u, hu, hv⟩ := q2 i x' hx'
   exact ⟨u, hu, JY ag ht hf hv⟩
  ·obtain ⟨_, c, h2, h3, _⟩ := hget l b e1
   obtain ⟨_, c', h2', h3', _⟩ := hget l' b' e2
   exact pinj l c l' c' h2 (h3 ▸ o1) h2' (h3' ▸ o2) e
  ·show b2.nb <= B
   rw [<- ag.nb]
   exact pnb
  ·intro c hc
   have hc : c < b2.nb := hc
   show w.heap[c]? = b2.g c
   rw [<- ag.g]
   exact pz c (by show c < b1.nb; rw [ag.nb]; exact hc)
 ·intro fl h0 r0 w0 i0 hnx ad hkeep
  refine ⟨⟨fun l hl => ⟨ad.le.n l hl, by rw [<- hnx]; exact i0 l hl⟩, ad.le.blk, ad.le.off, ad.le.cap⟩, by omega, fun l hl => ad.okn l hl.1, ad.os, ad.tape, ad.output, ad.size, ad.frame, hkeep, fun l b' hl hb => ?_, fun l b' hl hb => ?_⟩
  ·obtain ⟨_, c, h2, h3, _⟩ := hget l b' hb
   obtain ⟨b, e1, e2⟩ := ad.old l c hl h2
   exact ⟨b, e1, e2.trans h3.symm⟩
  ·have := (hget l b' hb).1
   omega
end
noncomputable section
theorem Adv.trans' {fl : Nat} {m m' m'' : Heap} {r r' r'' : Ren} {w w' w'' : World} (d : ∀ l b, m.get l = some b -> r.ok l) (d' : ∀ l b, m'.get l = some b -> r'.ok l)
  (h : Adv fl m r w m' r' w') (k : Adv fl m' r' w' m'' r'' w'') : Adv fl m r w m'' r'' w'' where
 le := ⟨fun l hl => k.le.n l (h.le.n l hl), fun l hl => (k.le.blk l (h.le.n l hl)).trans (h.le.blk l hl), fun l hl => (k.le.off l (h.le.n l hl)).trans (h.le.off l hl), fun l hl => (k.le.cap l (h.le.n l hl)).trans (h.le.cap l hl)⟩
 nn := apT h.nn k.nn
 okn l hl := by
  rcases k.okn l hl with g | g
  ·exact h.okn l g
  ·exact .inr (apT h.nn g)
 os := k.os.trans h.os
 tape := k.tape.trans h.tape
 output := k.output.trans h.output
 size := apT h.size k.size
 frame b hb hno := by
  rw [k.frame b (apQ hb h.size) ?_, h.frame b hb hno]
  intro l c hc ho hfl he
  by_cases hl : l < m.next
  ·obtain ⟨c', hc', ho'⟩ := h.old l c hl hc
   rw [h.le.blk l (d l c' hc')] at he
   exact hno l c' hc' (ho'.trans ho) hfl he
  ·rcases (h.fresh l c (apU hl) hc).2 with hs | ⟨l0, b0, h0, o0, f0, e0⟩
   ·omega
   ·exact hno l0 b0 h0 o0 f0 (e0.symm.trans he)
 keep l hl hfl := by rw [k.keep l (apQ hl h.nn) hfl, h.keep l hl hfl]
 old l b' hl hb := by
  obtain ⟨c, hc, oc⟩ := k.old l b' (apQ hl h.nn) hb
  obtain ⟨e, hd, od⟩ := h.old l c hl hc
  exact ⟨e, hd, od.trans oc⟩
 fresh l b' hl hb := by
  by_cases hl' : l < m'.next
  ·obtain ⟨c, hc, oc⟩ := k.old l b' hl' hb
   rw [k.le.blk l (d' l c hc), <- oc]
   exact h.fresh l c hl hc
  ·obtain ⟨ho, hh⟩ := k.fresh l b' (apU hl') hb
   refine ⟨ho, ?_⟩
   rcases hh with hs | ⟨l0, b0, h0, o0, f0, e0⟩
   ·exact .inl (apT h.size hs)
   ·by_cases h00 : l0 < m.next
    ·obtain ⟨c, hc, oc⟩ := h.old l0 b0 h00 h0
     exact .inr ⟨l0, c, hc, oc.trans o0, f0, by rw [e0, h.le.blk l0 (d l0 c hc)]⟩
    ·rcases (h.fresh l0 b0 (apU h00) h0).2 with hs | ⟨l1, b1, h1, o1, f1, e1⟩
     ·exact .inl (by rw [e0]; exact hs)
     ·exact .inr ⟨l1, b1, h1, o1, f1, by rw [e0, e1]⟩
def Goes (bo : Base) (B : Nat) (h : Heap) (r : Ren) (a : Act) (w : World) (x : X) (s1 : St) (e : Exit) (a' : Act) (w' : World) : Prop :=
 XR x e /\ ∃ r', @Rel bo s1 r' B a' w' /\ Adv 0 h r w s1.h r' w' /\ a'.defers = a.defers
def Turns (P : Program) (b1 b2 : Base) (c : Code) (hd : St) (x : X) (s1 : St) : Prop :=
 ∀ {r : Ren} {B : Nat} {a : Act} {w : World}, @Rel b1 hd r B a w -> c.wp P (Goes b2 B hd.h r a w x s1) a w
theorem Parts.ok {bb : Base} {s : St} {r : Ren} {B : Nat} {a : Act} {w : World} (h : @Rel bb s r B a w) : Parts bb s r B a w := @Rel.parts bb s r B a w h
theorem Iz {P : Program} {b : Nat -> Base} {bo : Base} {c : Code} {hd s1 : St} {x : X} (hx : x ≠ .normal) {N : Nat} (step : ∀ k, k < N -> Turns P (b k) (b (k + 1)) c hd .normal hd) (last : Turns P (b N) bo c hd x s1) :
  ∀ m k, k + m = N -> ∀ {r : Ren} {B : Nat} {a : Act} {w : World}, @Rel (b k) hd r B a w -> ∀ (f : Frame) (K : List Item) (cs : List Frame),
   ∃ e a' w', Goes bo B hd.h r a w x s1 e a' w' /\ Arrives P (lone (f.at a (.code c :: .inLoop c :: K)) cs w) f K cs e a' w'
 | 0, k, hk, r, B, a, w, hr, f, K, cs => by
  obtain rfl : k = N := by omega
  obtain ⟨e, a1, w1, ho, harr⟩ := last hr f (.inLoop c :: K) cs
  refine ⟨e, a1, w1, ho, .pass (x := .inLoop c) rfl (fun _ _ => .inl ?_) harr⟩
  intro he
  subst he
  cases x <;> simp [Goes, XR] at ho
  exact hx rfl
 | m + 1, k, hk, r, B, a, w, hr, f, K, cs => by
  obtain ⟨e, a1, w1, ⟨h3, r1, h4, h5, h6⟩, harr⟩ := step k (by omega) hr f (.inLoop c :: K) cs
  cases e <;> simp only [XR] at h3
  obtain ⟨e2, a2, w2, ⟨k3, r2, k4, k5, k6⟩, harr2⟩ := Iz hx step last m (k + 1) (by omega) h4 f K cs
  exact ⟨e2, a2, w2, ⟨k3, r2, k4, Adv.trans' (Parts.ok hr).dom (Parts.ok h4).dom h5 k5, k6.trans h6⟩, .of_steps (Steps.trans harr (.one step_inLoop)) harr2⟩
def iW (tag : Nat) (d : Bd) (th : Th) (hd : St) (x : X) (s1 : St) : Loops := fun t fl s =>
 bif apw t tag && apw fl 0 && apw s.h.next hd.h.next && wG d th hd s then some (x, s1) else none
theorem Ui {P : Program} {bo : Base} {b : Nat -> Base} {c : Code} {d : Bd} {th : Th} {hd s1 : St} {x : X} (hx : x ≠ .normal) {N : Nat} (ag : Agree bo (b 0) d) (ht : Th.ok bo (b 0) th)
  (step : ∀ k, k < N -> Turns P (b k) (b (k + 1)) c hd .normal hd) (last : Turns P (b N) bo c hd x s1) (tag : Nat) : @aO bo P (iW tag d th hd x s1) c := by
 intro fl B s s' y r a w hr hl
 unfold iW at hl
 cases hc : (apw c.tag tag && apw fl 0 && apw s.h.next hd.h.next && wG d th hd s) <;> rw [hc] at hl <;> simp only [cond_true, cond_false] at hl
 ·cases hl
 cases hl
 simp only [apv] at hc
 obtain ⟨⟨⟨_, hf⟩, hnx⟩, hfit⟩ := hc
 obtain rfl := apu hf
 have hnx := apu hnx
 obtain ⟨k1, k2⟩ := xJ ag ht hfit hr
 have hadv := k2 (Parts.ok hr).n hnx (@Adv.refl bo 0 s.h r B w hr.i) (fun l _ h => absurd h (Nat.not_lt_zero l))
 intro f K cs
 obtain ⟨e, a', w', ⟨g1, r', g2, g3, g4⟩, harr⟩ := Iz hx step last N 0 (by omega) k1 f K cs
 exact ⟨e, a', w', ⟨g1, r', g2, Adv.trans' (Parts.ok hr).dom (Parts.ok k1).dom hadv g3, g4⟩, .of_steps (.one step_loop) harr⟩
@[reducible] def Base.aH (b : Base) (K : Know) (ok : aG K b.rho b.sig) : Base := { K with nb := b.nb, g := b.g, rho := b.rho, sig := b.sig, ok := ok, lst := b.lst }
theorem Rel.aH (b : Base) {K : Know} (ok : aG K b.rho b.sig) {s : St} {r : Ren} {B : Nat} {a : Act} {w : World} (h : @Rel b s r B a w) : @Rel (b.aH K ok) s r B a w := by
 obtain ⟨f, n, bb, dom, own, ro, inj, nb, z⟩ := Parts.ok h
 exact @Rel.mk (b.aH K ok) _ _ _ _ _ f (@Inv.mk (b.aH K ok) _ _ _ _ n bb (@HR.mk (b.aH K ok) _ _ _ _ dom own ro inj nb z))
def X.same (x y : X) : Bool := match x, y with | .normal, .normal => true | .exit i, .exit j => apw i j | .ret, .ret => true | _, _ => false
theorem X.jO {x y : X} (h : x.same y = true) : x = y := by
 cases x <;> cases y <;> simp [X.same] at h
 ·rfl
 ·rw [h]
 ·rfl
def o8 (d : Bd) (th : Th) (x : X) (s1 : St) (r : XS) : Bool := Option.rec false (fun p => X.same p.1 x && wG d th s1 p.2) r
theorem a1d {P : Program} (hm : P.follows .mixedOrders = true) {b1 b2 : Base} {d : Bd} (ag : Agree b1 b2 d) {c : Code} {hd s1 : St} (hnx : hd.h.next = s1.h.next) {x : X} {n : Nat} {ss : List Nat} {L0 : Lf} {sp : Sp}
  (h0 : L0.Holds b1.rho b1.sig) (hl : Lens ss b1.rho b1.sig) (C : Lf -> Ctx) (th : Lf -> Th)
  (hty : ∀ L (h : L.Holds b1.rho b1.sig), @dV (b1.aH (L.know ss) (Lf.ok h hl)) P (C L).ty) (hC : ∀ L (h : L.Holds b1.rho b1.sig), @sD (b1.aH (L.know ss) (Lf.ok h hl)) P (C L))
  (hL : ∀ L (h : L.Holds b1.rho b1.sig), Loops.ok (@aO (b1.aH (L.know ss) (Lf.ok h hl)) P (C L).loop) c) (hth : ∀ L, L ∈ sp.leaves L0 -> L.Holds b1.rho b1.sig -> Th.ok b1 b2 (th L))
  (hrun : ((sp.leaves L0).all fun L => o8 d (th L) x s1 (@exec (L.know ss) (C L) 0 n c hd)) = true) : Turns P b1 b2 c hd x s1 := by
 intro r B a w hr
 obtain ⟨L, hmem, hLh⟩ := sp.cover h0
 have hrun := apK.1 hrun L hmem
 cases he : @exec (L.know ss) (C L) 0 n c hd with
 | none => rw [he] at hrun; cases hrun
 | some p =>
  obtain ⟨y, s⟩ := p
  rw [he] at hrun
  have hrun : (X.same y x && wG d (th L) s1 s) = true := hrun
  simp only [apv] at hrun
  obtain rfl := X.jO hrun.1
  refine wp_mono (@VD (b1.aH (L.know ss) (Lf.ok hLh hl)) P (C L) 0 (hty L hLh) (hC L hLh) hm n c (hL L hLh) B hd s y r a w (Rel.aH b1 _ hr) he) fun e a' w' ⟨h1, r', h2, h3, h4⟩ => ?_
  have ag' : Agree (b1.aH (L.know ss) (Lf.ok hLh hl)) b2 d := ⟨ag.nb, ag.g, ag.n, ag.s, ag.l⟩
  obtain ⟨k1, k2⟩ := xJ ag' (hth L hmem hLh) hrun.2 h2
  exact ⟨h1, _, k1, k2 (Parts.ok hr).n hnx h3 (fun l _ h => absurd h (Nat.not_lt_zero l)), h4⟩
def gQ (c : Code) : List Code :=
 Code.rec (motive := fun _ => List Code) [] (fun _ _ _ => []) (fun _ _ a b => a ++ b) (fun _ _ _ a b => a ++ b) (fun _ _ a => a) (fun c a => c :: a) (fun _ _ _ _ _ _ => []) (fun _ => []) (fun _ a => a) (fun _ => []) (fun _ => []) [] (fun _ => []) c
def dW (F : Func) (i : Nat) : Code := Option.rec .skip (fun c => (nth (gQ c) i).getD .skip) F.body
theorem Loops.alg {Q : Code -> Prop} : ∀ c : Code, (∀ d ∈ gQ c, Q d) -> Loops.ok Q c := by
 intro c
 induction c with
 | seq c d hc hd => exact fun h => ⟨hc fun e he => h e (apA.2 (.inl he)), hd fun e he => h e (apA.2 (.inr he))⟩
 | cond c t e ht he => exact fun h => ⟨ht fun e he => h e (apA.2 (.inl he)), he fun e he => h e (apA.2 (.inr he))⟩
 | block id c hc => exact hc
 | loop c hc => exact fun h => ⟨h c (apM ..), hc fun e he => h e (apI _ he)⟩
 | scope c hc => exact hc
 | _ => exact fun _ => trivial
theorem Loops.agh {P : Program} {bo : Base} {F : Func} {c : Code} (hF : F.body = some c) {i tag : Nat} {d : Bd} {th : Th} {hd s1 : St} {x : X}
  (hu : ((gQ c).map Code.tag).Nodup) (hi : i < (gQ c).length) (htag : (dW F i).tag = tag) (h : @aO bo P (iW tag d th hd x s1) (dW F i)) : Loops.ok (@aO bo P (iW tag d th hd x s1)) c := by
 refine Loops.alg c fun e he => ?_
 have hat : dW F i = (gQ c)[i] := by
  unfold dW
  rw [hF]
  show (nth (gQ c) i).getD .skip = _
  rw [aN, apJ hi]
  rfl
 rcases Decidable.em (e.tag = tag) with ht | ht
 ·obtain ⟨j, hj, rfl⟩ := List.getElem_of_mem he
  have : j = i := by
   have h1 : ((gQ c).map Code.tag)[j]'(by simpa using hj) = ((gQ c).map Code.tag)[i]'(by simpa using hi) := by
    simp only [List.getElem_map]
    rw [ht, <- htag, hat]
   exact (List.getElem_inj hu).1 h1
  subst this
  rw [<- hat]
  exact @h
 ·intro fl B s s' y r a w _ hl
  unfold iW at hl
  have : apw e.tag tag = false := by
   cases hb : apw e.tag tag
   ·rfl
   ·exact absurd (apu hb) ht
  rw [this] at hl
  cases hl
def dR (T : List (FuncId × Loops)) : FuncId -> Loops := fun f t fl s => List.rec none (fun p _ ih => bif apw p.1 f then VW (p.2 t fl s) ih else ih) T
theorem aO.or {P : Program} {bo : Base} {L M : Loops} {c : Code} (h : @aO bo P L c) (k : @aO bo P M c) : @aO bo P (fun t fl s => VW (L t fl s) (M t fl s)) c := by
 intro fl B s s' x r a w hr hl
 have hl : VW (L c.tag fl s) (M c.tag fl s) = some (x, s') := hl
 cases ho : L c.tag fl s with
 | none => rw [ho] at hl; exact k hr hl
 | some p => rw [ho] at hl; cases hl; exact h hr ho
theorem Loops.Jw {Q R : Code -> Prop} (h : ∀ c, Q c -> R c) (c : Code) : Loops.ok Q c -> Loops.ok R c := by
 induction c with
 | seq c d hc hd => exact fun k => ⟨hc k.1, hd k.2⟩
 | cond c t e ht he => exact fun k => ⟨ht k.1, he k.2⟩
 | block id c hc => exact hc
 | loop c hc => exact fun k => ⟨h _ k.1, hc k.2⟩
 | scope c hc => exact hc
 | _ => exact fun _ => trivial
theorem Loops.ado {Q R : Code -> Prop} (c : Code) : Loops.ok Q c -> Loops.ok R c -> Loops.ok (fun c => Q c /\ R c) c := by
 induction c with
 | seq c d hc hd => exact fun h k => ⟨hc h.1 k.1, hd h.2 k.2⟩
 | cond c t e ht he => exact fun h k => ⟨ht h.1 k.1, he h.2 k.2⟩
 | block id c hc => exact hc
 | loop c hc => exact fun h k => ⟨⟨h.1, k.1⟩, hc h.2 k.2⟩
 | scope c hc => exact hc
 | _ => exact fun _ _ => trivial
theorem EM {P : Program} {bo : Base} (T : List (FuncId × Loops)) (h : ∀ p ∈ T, ∀ F c, P.funcs[p.1]? = some F -> F.body = some c -> Loops.ok (@aO bo P p.2) c) :
  ∀ f F c, P.funcs[f]? = some F -> F.body = some c -> Loops.ok (@aO bo P (dR T f)) c := by
 intro f F c hF hc
 induction T with
 | nil =>
  have key : ∀ c, @aO bo P (dR [] f) c := by
   intro c fl B s s' x r a w _ h
   cases h
  exact Loops.qU key c
 | cons p T ih =>
  have ih := ih fun q hq => h q (apI _ hq)
  cases hb : apw p.1 f with
  | false =>
   refine Loops.Jw (fun c hQ => ?_) c ih
   intro fl B s s' x r a w hr hl
   have hl : (bif apw p.1 f then VW (p.2 c.tag fl s) (dR T f c.tag fl s) else dR T f c.tag fl s) = some (x, s') := hl
   rw [hb] at hl
   exact hQ hr hl
  | true =>
   have e := apu hb
   refine Loops.Jw (fun c hQ => ?_) c (Loops.ado c (h p (apM ..) F c (by rw [e]; exact hF) hc) ih)
   intro fl B s s' x r a w hr hl
   have hl : (bif apw p.1 f then VW (p.2 c.tag fl s) (dR T f c.tag fl s) else dR T f c.tag fl s) = some (x, s') := hl
   rw [hb] at hl
   exact aO.or hQ.1 hQ.2 hr hl
end
inductive E where
 | lt (i : Nat) (c : Int)
 | zero (l : List (Nat × Int))
 | and (a b : E)
 | or (a b : E)
 | not (a : E)
def ah (vs : List Value) (i : Nat) : Int := match vs[i]? with | some v => bf v | none => 0
def E.val (vs : List Value) : E -> Bool
 | .lt i c => decide (ah vs i < c)
 | .zero l => l.all fun p => decide (ah vs p.1 = p.2)
 | .and a b => a.val vs && b.val vs
 | .or a b => a.val vs || b.val vs
 | .not a => !a.val vs
noncomputable section
variable [Know]
def a1D (x : S) (c : Int) : Option Q := match x with
 | .int _ n => some (.b (decide (n = c)))
 | .xi _ i => Option.rec (some (pR i c)) (fun b => some (.b b)) (eqC i c)
 | .bool b => some (.b (decide ((bif b then 1 else 0) = c)))
 | .xe l => bif decide (c = 0) then SG l false else bif decide (c = 1) then SG l true else none
 | _ => none
def a2O (xs : List S) : List (Nat × Int) -> Option Q :=
 List.rec (some (.b true)) fun p _ ih => ob (nth xs p.1) fun x => ob (a1D x p.2) fun q => ob ih fun r => some (q.and r)
def Q.told (q : Q) : Option Bool := match q with | .b x => some x | .c l => Ut l
def ND (x y : Option Bool) : Option Bool := Option.rec (ob y fun b => bif b then none else some false) (fun b => bif b then y else some false) x
def E.abs (xs : List S) (e : E) : Option Bool :=
 E.rec (fun i c => ob (nth xs i) fun x => ob x.num fun p => ltX p.2 (.c c)) (fun l => ob (a2O xs l) Q.told) (fun _ _ a b => ND a b) (fun _ _ a b => sH (ND (sH a) (sH b))) (fun _ a => sH a) e
def amw (k : Kd) (x : S) : Bool := match k, x with
 | .b, .bool _ => true
 | .b, .xe _ => true
 | .i k, .int k' n => k == k' && decide (k.min <= n) && decide (n <= k.max)
 | .i k, .xi k' i => bif k == k' then Option.rec false (fun p => decide (k.min <= p.1) && decide (p.2 <= k.max)) (nth Know.iv i) else false
 | _, _ => false
def Yt : List Kd -> List S -> Bool
 | [], [] => true
 | k :: ks, x :: xs => amw k x && Yt ks xs
 | _, _ => false
def a8J (ks : List Kd) (e : E) (mk : Bool -> V) (args : List A) : Option V := match args with
 | [.g cells] => bif Yt ks cells then ob (e.abs cells) fun b => some (mk b) else none
 | _ => none
end
section
variable [Base] {r : Ren}
theorem acH {x : S} {c : Int} {q : Q} (h : a1D x c = some q) {v : Value} (hv : VS r x v) : q.val = decide (bf v = c) := by
 unfold a1D at h
 split at h
 ·cases h; cases hv; rfl
 ·rename_i k i
  cases hv
  cases he : eqC i c with
  | none => rw [he] at h; cases h; show (_ && true) = _; rw [Bool.and_true]; exact decide_eq_decide.2 Iff.rfl
  | some b => rw [he] at h; cases h; exact (vO he).symm.trans (decide_eq_decide.2 Iff.rfl)
 ·rename_i b
  cases h; cases hv
  cases b <;> simp [Q.val, bf]
 ·rename_i l
  cases hv
  cases h0 : decide (c = 0) <;> rw [h0] at h <;> simp only [cond_true, cond_false] at h
  ·cases h1 : decide (c = 1) <;> rw [h1] at h <;> simp only [cond_true, cond_false] at h
   ·cases h
   ·simp only [decide_eq_true_eq] at h1
    subst h1
    rw [Fj h]
    cases (l.any fun p => decide (Base.rho p.1 = p.2)) <;> simp [bf]
  ·simp only [decide_eq_true_eq] at h0
   subst h0
   rw [Fj h]
   cases (l.any fun p => decide (Base.rho p.1 = p.2)) <;> simp [bf]
 ·cases h
theorem ahZ {q : Q} {b : Bool} (h : q.told = some b) : q.val = b := by
 cases q with
 | b x => cases h; rfl
 | c l => exact a3s h
theorem Ol {vs : List Value} {i : Nat} {v : Value} (h : vs[i]? = some v) : ah vs i = bf v := by simp [ah, h]
theorem XF {xs : List S} {vs : List Value} (ha : ak (VS r) xs vs) : ∀ {l : List (Nat × Int)} {q : Q}, a2O xs l = some q -> q.val = l.all fun p => decide (ah vs p.1 = p.2)
 | [], q, h => by cases h; rfl
 | p :: l, q, h => by
  have h : (ob (nth xs p.1) fun x => ob (a1D x p.2) fun q => ob (a2O xs l) fun r => some (q.and r)) = some q := h
  obtain ⟨x, hx, h⟩ := aj h
  obtain ⟨q1, h1, h⟩ := aj h
  obtain ⟨q2, h2, h⟩ := aj h
  cases h
  obtain ⟨v, hv, hxv⟩ := ak.nth ha hx
  rw [Q.and_val, apF, XF ha h2, acH h1 hxv, Ol hv]
theorem F6 {x y : Option Bool} {a b c : Bool} (hx : ∀ c, x = some c -> a = c) (hy : ∀ c, y = some c -> b = c) (h : ND x y = some c) : (a && b) = c := by
 cases x with
 | none =>
  obtain ⟨d, hd, h⟩ := aj (show ob y (fun b => bif b then none else some false) = some c from h)
  cases d
  ·cases h; rw [hy _ hd]; simp
  ·cases h
 | some d =>
  have h : (bif d then y else some false) = some c := h
  rw [hx d rfl]
  cases d
  ·cases h; rfl
  ·rw [hy _ h]; rfl
theorem rP {x : Option Bool} {a c : Bool} (hx : ∀ c, x = some c -> a = c) (h : sH x = some c) : (!a) = c := by
 obtain ⟨d, hd, h⟩ := aj h
 cases h
 rw [hx d hd]
theorem E.qA {xs : List S} {vs : List Value} (ha : ak (VS r) xs vs) : ∀ {e : E} {b : Bool}, e.abs xs = some b -> e.val vs = b
 | .lt i c, b, h => by
  obtain ⟨x, hx, h⟩ := aj (show (ob (nth xs i) fun x => ob x.num fun p => ltX p.2 (.c c)) = some b from h)
  obtain ⟨p, hp, h⟩ := aj h
  obtain ⟨v, hv, hxv⟩ := ak.nth ha hx
  have := qx hp hxv
  subst this
  rw [E.val, Ol hv, yP h]
  rfl
 | .zero l, b, h => by
  obtain ⟨q, hq, h⟩ := aj (show ob (a2O xs l) Q.told = some b from h)
  rw [E.val, <- XF ha hq, ahZ h]
 | .and p q, b, h => F6 (fun _ h => E.qA ha h) (fun _ h => E.qA ha h) (show ND (p.abs xs) (q.abs xs) = some b from h)
 | .or p q, b, h => by
  have h : sH (ND (sH (p.abs xs)) (sH (q.abs xs))) = some b := h
  have := rP (fun _ h => F6 (fun _ h => rP (fun _ h => E.qA ha h) h) (fun _ h => rP (fun _ h => E.qA ha h) h) h) h
  rw [<- this]
  show (p.val vs || q.val vs) = _
  cases p.val vs <;> cases q.val vs <;> rfl
 | .not p, b, h => rP (fun _ h => E.qA ha h) (show sH (p.abs xs) = some b from h)
theorem aiV {k : Kd} {x : S} (h : amw k x = true) {v : Value} (hv : VS r x v) : k.ok v := by
 unfold amw at h
 split at h
 ·exact ⟨_, hv⟩
 ·exact ⟨_, hv⟩
 ·simp only [apv, decide_eq_true_eq, beq_iff_eq] at h
  obtain ⟨⟨rfl, h1⟩, h2⟩ := h
  exact ⟨_, hv, h1, h2⟩
 ·rename_i k k' i
  cases hk : (k == k') <;> rw [hk] at h <;> simp only [cond_true, cond_false] at h
  ·cases h
  ·obtain rfl : k = k' := by simpa using hk
   cases hp : nth Know.iv i with
   | none => rw [hp] at h; cases h
   | some p =>
    rw [hp] at h
    simp only [apv, decide_eq_true_eq] at h
    have := Base.ok.iv i p hp
    exact ⟨_, hv, by omega, by omega⟩
 ·cases h
theorem Yy : ∀ {ks : List Kd} {xs : List S}, Yt ks xs = true -> ∀ {vs : List Value}, ak (VS r) xs vs -> ak Kd.ok ks vs
 | [], [], _, [], _ => trivial
 | k :: ks, x :: xs, h, v :: vs, ha => by
  simp only [Yt, apv] at h
  exact ⟨aiV h.1 ha.1, Yy h.2 ha.2⟩
 | [], _ :: _, h, _, _ => by cases h
 | _ :: _, [], h, _, _ => by cases h
 | [], [], _, _ :: _, h => h.elim
 | _ :: _, _ :: _, _, [], h => h.elim
def Tests (P : Program) (Q : World -> Prop) (F : FuncId) (ks : List Kd) (e : E) (val : Bool -> Value) : Prop :=
 ∀ us, ak Kd.ok ks us -> ∀ w : World, Q w -> Calls P F #[.agg us.toArray] w fun x w' => x = .returned (val (e.val us)) /\ Below w.heap.size w w'
theorem PI {P : Program} {Q : World -> Prop} {F : FuncId} (hc : dG P F) {ks : List Kd} {e : E} {val : Bool -> Value} (h : Tests P Q F ks e val) (hQ : UK Q) (mk : Bool -> V) (hmk : ∀ r b, VV r (mk b) (val b)) : Sound P (qE F (a8J ks e mk)) := by
 refine jk hc fun args v hg r vs ha w hw => ?_
 unfold a8J at hg
 split at hg
 ·rename_i cells
  cases hf : Yt ks cells <;> rw [hf] at hg <;> simp only [cond_true, cond_false] at hg
  ·cases hg
  obtain ⟨b, hb, hg⟩ := aj hg
  cases hg
  match vs, ha with
  | [u], ⟨⟨us, hu, hus⟩, _⟩ =>
   subst hu
   refine (h us (Yy hf hus) w (hQ w hw)).mono fun x w' ⟨h1, h2⟩ => ⟨_, h1, ?_, h2⟩
   rw [E.qA hus hb]
   exact hmk r b
 ·cases hg
end
noncomputable section
def ou (e : E) (mk : Bool -> V) (ks : List Kd) (L : Lf) (r : R) : Bool := Option.rec false (fun b => vY (mk b) r) (@E.abs (L.know (fD 0 ks)) ((bV 0 ks).map L.nS) e)
end
theorem zD {v : V} {r : R} (h : vY v r = true) : ∃ h', r = some (v, h') := by
 cases r with
 | none => cases h
 | some p =>
  obtain ⟨v', h'⟩ := p
  have h : V.same v' v = true := h
  letI : Base := Base.known Know.nought (aG.nought (fun _ => 0) (fun _ => [])) 0 default
  rw [V.jO h]
  exact ⟨h', rfl⟩
theorem adO {P : Program} {F : FuncId} {ks : List Kd} {e : E} {val : Bool -> Value} {nb : Nat} {w0 : World} (O : Lf -> aS) (mk : Bool -> V)
  (hmk : ∀ (b0 : Base) r b u, @VV b0 r (mk b) u -> u = val b)
  (hO : ∀ (L : Lf) {rho : Nat -> Int} {sig : Nat -> List UInt8} (h : L.Holds rho sig) (k : Lens (fD 0 ks) rho sig) (d : Dec ks rho sig), @Sound (Base.known (L.know (fD 0 ks)) (Lf.ok h k) nb w0) P (O L))
  {sp : Sp} (hrun : ((sp.leaves (Lf.start [(true, ks)])).all fun L => ou e mk ks L (O L F [.g ((bV 0 ks).map L.nS)] ⟨[], 0⟩ 0)) = true) :
  Tests P (fun w => nb <= w.heap.size /\ ∀ k, k < nb -> w.heap[k]? = w0.heap[k]?) F ks e val := by
 intro us hk w hw
 have hg : Gps [(true, ks)] [.agg us.toArray] us := ⟨us, [], (aq0 _).symm, ⟨hk, .inl ⟨rfl, rfl⟩⟩, rfl⟩
 have hks : eu [(true, ks)] = ks := by simp [eu]
 have k := JW hg
 have d := aaL hg
 rw [hks] at k d
 obtain ⟨L, hm, hL⟩ := sp.cover (Lf.FQ hg)
 have hp := apK.1 hrun L hm
 have ha' : @ak _ _ (@VA (Base.known (L.know (fD 0 ks)) (Lf.ok hL k) nb w0) r0) [.g (bV 0 ks)] [.agg us.toArray] :=
  @yS (Base.known (L.know (fD 0 ks)) (Lf.ok hL k) nb w0) r0 us rfl rfl [] [(true, ks)] _ [] us (by simp) hg
 have ha := @Lf.yh (Base.known (L.know (fD 0 ks)) (Lf.ok hL k) nb w0) L r0 hL _ _ ha'
 unfold ou at hp
 cases hb : @E.abs (L.know (fD 0 ks)) ((bV 0 ks).map L.nS) e with
 | none => rw [hb] at hp; cases hp
 | some b =>
  rw [hb] at hp
  obtain ⟨h', hr⟩ := zD hp
  have ha2 := ha
  obtain ⟨⟨us', e1, hus⟩, _⟩ := ha2
  have e1 : Value.agg us.toArray = .agg us'.toArray := e1
  obtain rfl : us = us' := by simpa using e1
  refine (@iC (Base.known (L.know (fD 0 ks)) (Lf.ok hL k) nb w0) P w hw.1 hw.2 (O L) (hO L hL k d) F _ _ ha _ h' hr).mono fun x w' ⟨u, r', e1, e2, e3⟩ => ⟨?_, e3⟩
  rw [e1, hmk _ _ _ _ e2, @E.qA (Base.known (L.know (fD 0 ks)) (Lf.ok hL k) nb w0) r0 _ _ hus _ _ hb]
structure Facts where
 sq : List (List Nat × List Nat × Bool)
 df : List (Nat × Nat × Nat)
 sx : List (List Nat × List Nat × List (Nat × Int))
 ct : List (List Nat × N × Option N × List Nat)
 sb : List (Nat × Nat × Nat)
 ad : List (Nat × Int × Nat)
@[reducible] noncomputable def Lf.aps (L : Lf) (ss : List Nat) (f : Facts) : Know := ⟨L.iv, L.ne, L.lt, mxL ss 0 L.iv, f.sq, ss.map fun i => ([256 + i], i), L.cf, f.df, f.sx, f.ct, f.sb, f.ad, xZ.nought⟩
def S.one (x : S) : Bool := match x with | .bool _ | .int .. | .xi .. | .xe _ | .xs _ | .str _ => true | _ => false
section
variable [Base]
theorem VS.XZ {r r' : Ren} {x : S} (h : x.one = true) {v v' : Value} (k : VS r x v) (k' : VS r' x v') : v = v' := by
 cases x <;> simp [S.one] at h <;> exact Eq.trans k (Eq.symm k')
theorem Rh {r r' : Ren} : ∀ {xs : List S}, xs.all S.one = true -> ∀ {us vs : List Value}, ak (VS r) xs us -> ak (VS r') xs vs -> us = vs
 | [], _, [], [], _, _ => rfl
 | x :: xs, h, u :: us, v :: vs, hu, hv => by
  simp only [apF, apv] at h
  rw [VS.XZ h.1 hu.1 hv.1, Rh h.2 hu.2 hv.2]
 | [], _, _ :: _, _, h, _ => h.elim
 | [], _, _, _ :: _, _, h => h.elim
 | _ :: _, _, [], _, h, _ => h.elim
 | _ :: _, _, _, [], _, h => h.elim
end
noncomputable def Jp (l : List aS) : aS := fun f a h fl => List.rec none (fun o _ ih => orR (o f a h fl) ih) l
theorem jL [Base] {P : Program} : ∀ {l : List aS}, (∀ o ∈ l, Sound P o) -> Sound P (Jp l)
 | [], _ => fun _ _ _ _ _ _ h => by cases h
 | o :: l, h => dZ (h o (apM ..)) (jL fun p hp => h p (apI _ hp))
theorem jE {a b : List Value} {i : Nat} (h : i < a.length) : ah (a ++ b) i = ah a i := by
 unfold ah
 rw [apy h]
theorem qP (cs : List Value) (i : Nat) : dw cs i = ah cs i := by
 simp only [dw, GX, aN, apB, ah]
 cases cs[i]? <;> rfl
theorem kG {a b : List Value} {n : Nat} (h : a.length = n) (j : Nat) : ah (a ++ b) (n + j) = ah b j := by
 unfold ah
 rw [apx (by omega), show n + j - a.length = j by omega]
theorem qm {us : List Value} {n m i : Nat} (h : i < m) : ah ((us.drop n).take m) i = ah us (n + i) := by
 unfold ah
 rw [List.getElem?_take, if_pos h, List.getElem?_drop]
def Dj (l : List UInt8) : Value := .string ⟨l.toArray⟩
def behind (cs : List Value) (strs : List (List UInt8)) (ints : List Int) : List Value := cs ++ (strs.map Dj ++ ints.map (Value.int .i64))
theorem aeJ (l : List UInt8) : bf (Dj l) = l.length := by simp [Dj, bf, ByteArray.size]
section
variable {cs : List Value} {strs : List (List UInt8)} {ints : List Int} {n a : Nat}
theorem mX {i : Nat} (h : i < cs.length) : dw (behind cs strs ints) i = ah cs i := by
 rw [qP]
 exact jE h
theorem CW (h : cs.length = n) {j : Nat} {l : List UInt8} (hl : strs[j]? = some l) : dw (behind cs strs ints) (n + j) = l.length := by
 rw [qP]
 unfold behind
 have hj : j < strs.length := (apz.1 hl).1
 rw [kG h, jE (by simpa using hj)]
 unfold ah
 rw [apB, hl]
 exact aeJ l
theorem iy (h : cs.length = n) (ha : strs.length = a) {j : Nat} {m : Int} (hm : ints[j]? = some m) : dw (behind cs strs ints) (n + a + j) = m := by
 rw [qP]
 unfold behind
 rw [Nat.add_assoc, kG h, kG (by simpa using ha)]
 unfold ah
 rw [apB, hm]
 rfl
theorem NP (h : cs.length = n) {j : Nat} {l : List UInt8} (hl : strs[j]? = some l) : fG (behind cs strs ints) (n + j) = l := by
 have hj : j < strs.length := (apz.1 hl).1
 simp only [fG, P6, aN, behind]
 rw [apB, apx (by omega), apy (by simp; omega), apB, show n + j - cs.length = j by omega, hl]
 rfl
def Fq (n a : Nat) : List Nat := (apO a).map (n + ·)
theorem Qw {n a i : Nat} : i ∈ Fq n a ↔ n <= i /\ i < n + a := by
 simp only [Fq, apN, List.mem_range]
 constructor
 ·rintro ⟨j, h, rfl⟩; omega
 ·rintro ⟨h1, h2⟩; exact ⟨i - n, by omega, by omega⟩
theorem rY {gs : List Gp} {vs : List Value} (hg : Gps gs vs cs) (hs : fD 0 (eu gs) = []) (h : cs.length = n) (ha : strs.length = a) : Lens (Fq n a) (dw (behind cs strs ints)) (fG (behind cs strs ints)) where
 all i hi := by
  by_cases hlt : i < n
  ·have e : fG (behind cs strs ints) i = fG cs i := by
    simp only [fG, P6, aN, behind]
    rw [apH, apy (by rw [apG]; omega)]
   rw [e]
   exact (JW hg).all i (by rw [hs]; simp)
  ·have hi : ¬ (n <= i /\ i < n + a) := fun h => hi (Qw.2 h)
   simp only [fG, P6, aN, behind]
   rw [apB, apx (by omega), apx (by simp; omega), apB]
   cases ints[i - cs.length - (strs.map Dj).length]? with
   | none => simp
   | some m => exact dY m
 ss i hi := by
  obtain ⟨h1, h2⟩ := Qw.1 hi
  obtain ⟨j, rfl⟩ : ∃ j, i = n + j := ⟨i - n, by omega⟩
  have hl : strs[j]? = some (strs[j]'(by omega)) := apJ _
  rw [CW h hl, NP h hl]
def Lf.l9 (gs : List Gp) (ivS ivI : List (Int × Int)) : Lf := ⟨(eu gs).map Kd.iv ++ (ivS ++ ivI), [], [], apO ((eu gs).length + (ivS.length + ivI.length)), [], [], []⟩
theorem Lf.a6e {gs : List Gp} {vs : List Value} (hg : Gps gs vs cs) {ivS ivI : List (Int × Int)} (hS : ak (fun p (l : List UInt8) => p.1 <= (l.length : Int) /\ (l.length : Int) <= p.2) ivS strs) (hI : ak (fun p (m : Int) => p.1 <= m /\ m <= p.2) ivI ints) :
  (Lf.l9 gs ivS ivI).Holds (dw (behind cs strs ints)) (fG (behind cs strs ints)) where
 iv i q e := by
  have e : nth ((eu gs).map Kd.iv ++ (ivS ++ ivI)) i = some q := e
  have hlen : ((eu gs).map Kd.iv).length = cs.length := by rw [apG]; exact hg.kinds.len
  rw [aN] at e
  by_cases hlt : i < cs.length
  ·rw [apy (by omega)] at e
   have h0 := (Lf.FQ hg).iv i q (by rw [aN]; exact e)
   rw [mX hlt, <- qP]
   exact h0
  ·rw [apx (by omega), hlen] at e
   obtain ⟨j, rfl⟩ : ∃ j, i = cs.length + j := ⟨i - cs.length, by omega⟩
   rw [show cs.length + j - cs.length = j by omega] at e
   by_cases hj : j < ivS.length
   ·rw [apy hj] at e
    obtain ⟨l, hl, k⟩ := ak.nth hS (n := j) (x := q) (by rw [aN]; exact e)
    rw [CW rfl hl]
    exact k
   ·rw [apx (by omega)] at e
    obtain ⟨m, hm, k⟩ := ak.nth hI (n := j - ivS.length) (x := q) (by rw [aN]; exact e)
    have hsl := hS.len
    rw [show cs.length + j = cs.length + ivS.length + (j - ivS.length) by omega, iy rfl hsl.symm hm]
    exact k
 ne _ _ e := by cases e
 lt _ _ e := by cases e
 to i j e := by
  have e : nth (apO ((eu gs).length + (ivS.length + ivI.length))) i = some j := e
  rw [aN] at e
  obtain ⟨_, e⟩ := apz.1 e
  simp at e
  rw [e]
 st _ _ e := by cases e
 sn _ _ e := by cases e
 cf _ e := by cases e
end
noncomputable def sV [Know] (F : FuncId) (cells : List S) (i : Nat) (mk : Bool -> V) : aS := qE F fun args => match args with | [.g xs] => bif iE S.eqv cells xs then some (Option.rec .any mk (eqC i 1)) else none | _ => none
def b2i (b : Bool) : Int := bif b then 1 else 0
theorem jV [Base] {P : Program} {F : FuncId} (hc : dG P F) {cells : List S} (h1 : cells.all S.one = true) {us : List Value} (hus : ak (VS r0) cells us) {i : Nat} {b : Bool} (hb : Base.rho i = b2i b) {mk : Bool -> V} {u : Value} (hu : ∀ r, VV r (mk b) u)
  (h : UK fun w => Calls P F #[.agg us.toArray] w fun e w' => e = .returned u /\ Below w.heap.size w w') : Sound P (sV F cells i mk) := by
 refine jk hc fun args v' hg r vs ha w hw => ?_
 split at hg
 ·rename_i xs
  cases hs : iE S.eqv cells xs <;> rw [hs] at hg <;> simp only [cond_true, cond_false] at hg
  ·cases hg
  ·cases hg
   have e := O4 (fun _ _ => S.vJ) hs
   subst e
   match vs, ha with
   | [a], ⟨⟨as, ha1, ha2⟩, _⟩ =>
    subst ha1
    obtain rfl := Rh h1 ha2 hus
    refine (h w hw).mono fun e w' ⟨e1, e2⟩ => ⟨u, e1, ?_, e2⟩
    cases hcc : eqC i 1 with
    | none => exact trivial
    | some c =>
     have hbc : c = b := by
      rw [<- vO hcc, hb]
      cases b <;> decide
     rw [hbc]
     exact hu r
 ·cases hg
theorem kK (L : Lf) : ∀ (ks : List Kd) (i : Nat), (ks.all fun k => match k with | .s => false | _ => true) = true -> ((bV i ks).map L.nS).all S.one = true
 | [], _, _ => rfl
 | k :: ks, i, h => by
  simp only [apF, apv] at h
  have ih := kK L ks (i + 1) h.2
  show ((L.nS (cellT i k)).one && ((bV (i + 1) ks).map L.nS).all S.one) = true
  rw [ih, Bool.and_true]
  cases k with
  | s => exact absurd h.1 (by decide)
  | b =>
   show (S.ai7 _ (@Du L.Fh ([(i, (1 : Int))].map fun p => (L.rep p.1, p.2)))).one = true
   cases @Du L.Fh ([(i, (1 : Int))].map fun p => (L.rep p.1, p.2)) <;> rfl
  | i kd =>
   show (S.aiZ kd (L.rep i) (nth L.iv (L.rep i))).one = true
   cases nth L.iv (L.rep i) with
   | none => rfl
   | some p =>
    show S.one (bif decide (p.1 = p.2) then _ else _) = true
    cases decide (p.1 = p.2) <;> rfl
noncomputable def clL (L : Lf) (i : Nat) (ks : List Kd) : List S := (bV i ks).map L.nS
theorem D8 [Base] {L : Lf} (hL : L.Holds Base.rho Base.sig) {full : List Value} (h1 : Base.rho = dw full) (h2 : Base.sig = fG full) {ks : List Kd} {us pre post : List Value} {n : Nat} (e : full = pre ++ (us ++ post)) (hn : pre.length = n) (hk : ak Kd.ok ks us) : ak (VS r0) (clL L n ks) us := by
 subst hn
 exact Lf.Ov hL (kL h1 h2 e hk)
theorem EO (us post : List Value) (n m : Nat) : us ++ post = us.take n ++ ((us.drop n).take m ++ ((us.drop n).drop m ++ post)) := by
 rw [<- apR ((us.drop n).take m), apV, <- apR, apV]
section
variable {cs : List Value} {strs : List (List UInt8)} {ints : List Int} {n a : Nat}
theorem Lf.yT {gs : List Gp} {vs : List Value} (hg : Gps gs vs cs) {ivS ivI : List (Int × Int)} (hS : ak (fun p (l : List UInt8) => p.1 <= (l.length : Int) /\ (l.length : Int) <= p.2) ivS strs) {i0 i1 : List Int} (hi : ints = i0 ++ i1) (hI : ak (fun p (m : Int) => p.1 <= m /\ m <= p.2) ivI i0) :
  (Lf.l9 gs ivS ivI).Holds (dw (behind cs strs ints)) (fG (behind cs strs ints)) where
 iv i q e := by
  have e : nth ((eu gs).map Kd.iv ++ (ivS ++ ivI)) i = some q := e
  have hlen : ((eu gs).map Kd.iv).length = cs.length := by rw [apG]; exact hg.kinds.len
  rw [aN] at e
  by_cases hlt : i < cs.length
  ·rw [apy (by omega)] at e
   have h0 := (Lf.FQ hg).iv i q (by rw [aN]; exact e)
   rw [mX hlt, <- qP]
   exact h0
  ·rw [apx (by omega), hlen] at e
   obtain ⟨j, rfl⟩ : ∃ j, i = cs.length + j := ⟨i - cs.length, by omega⟩
   rw [show cs.length + j - cs.length = j by omega] at e
   by_cases hj : j < ivS.length
   ·rw [apy hj] at e
    obtain ⟨l, hl, k⟩ := ak.nth hS (n := j) (x := q) (by rw [aN]; exact e)
    rw [CW rfl hl]
    exact k
   ·rw [apx (by omega)] at e
    obtain ⟨m, hm, k⟩ := ak.nth hI (n := j - ivS.length) (x := q) (by rw [aN]; exact e)
    have hsl := hS.len
    have hm' : ints[j - ivS.length]? = some m := by
     rw [hi, apy (apz.1 hm).1]
     exact hm
    rw [show cs.length + j = cs.length + ivS.length + (j - ivS.length) by omega, iy rfl hsl.symm hm']
    exact k
 ne _ _ e := by cases e
 lt _ _ e := by cases e
 to i j e := by
  have e : nth (apO ((eu gs).length + (ivS.length + ivI.length))) i = some j := e
  rw [aN] at e
  obtain ⟨_, e⟩ := apz.1 e
  simp at e
  rw [e]
 st _ _ e := by cases e
 sn _ _ e := by cases e
 cf _ e := by cases e
end
noncomputable section
section
variable [Base] {P : Program} {C : Ctx} {fl n t : Nat}
end
structure Same (b1 b2 : Base) (d : Bd) : Prop where
 n : ∀ i, i < d.n -> b1.rho i = b2.rho i
 s : ∀ i, i < d.s -> b1.sig i = b2.sig i
 l : ∀ i, i < d.l -> b1.lst i = b2.lst i
variable {b1 b2 : Base} {d : Bd}
section
variable {r : Ren} {th : Th} (ag : Same b1 b2 d) (ht : ∀ p ∈ th, ∀ v, @VS b1 r p.2 v -> @VS b2 r p.1 v)
include ag ht
end
end
end Am
end Go.Proofs.YtglmonlofejcgaaGreatDoor
