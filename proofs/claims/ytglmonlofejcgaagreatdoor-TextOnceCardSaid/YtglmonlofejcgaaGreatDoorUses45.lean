/- Rvalues as lists of cells. -/
import Derived.Test.YtglmonlofejcgaaGreatDoorJump5
import Derived.Shelf.Spec.SlicesInsertGrow
set_option maxRecDepth 100000
noncomputable section
open List renaming length_append → apu, length_cons → apv, append_cancel_left → apw, length_nil → apx
set_option linter.unusedVariables false
set_option linter.unusedSectionVars false
namespace Go.Proofs.YtglmonlofejcgaaGreatDoor
namespace Am
open Go.RowKit
theorem acw {ks : List Kd} {us : List Value} (h : ak Kd.ok ks us) {i : Nat} {k : Kd} (hi : ks[i]? = some k) : k.iv.1 <= ah us i /\ ah us i <= k.iv.2 := by
 obtain ⟨v, hv, hk⟩ := ak.nth h (n := i) (x := k) (by rw [aN]; exact hi)
 have e : ah us i = bf v := by simp [ah, hv]
 rw [e]
 exact Kd.Iu hk
theorem ZA {ks : List Kd} {us : List Value} (h : ak Kd.ok ks us) {i : Nat} (hi : ks[i]? = some (.i .i64)) : I64 (ah us i) := acw h hi
theorem YP {ks : List Kd} {us : List Value} (h : ak Kd.ok ks us) {i : Nat} (hi : ks[i]? = some (.i .u8)) : 0 <= ah us i := (acw h hi).1
theorem Qn {ks : List Kd} {us : List Value} (h : ak Kd.ok ks us) {i : Nat} (hi : ks[i]? = some .b) : ah us i = 0 \/ ah us i = 1 := by
 have h1 : (0 : Int) <= ah us i /\ ah us i <= 1 := acw h hi
 omega
theorem a9u {x y : Int} (hx : x = 0 \/ x = 1) (hy : y = 0 \/ y = 1) (h : decide (x = 1) = decide (y = 1)) : x = y := by
 rcases hx with rfl | rfl <;> rcases hy with rfl | rfl <;> first | rfl | exact absurd h (by decide)
theorem uZ (l : Int) (d : Bool) (f : Int) : (bn l d f).length <= 25 := by
 have := dY l
 rw [mW]
 have hf : (Js f).length <= 2 := by
  unfold Js
  split
  ·decide
  ·split <;> decide
 cases d <;> simp <;> omega
theorem VP (o : Opd) : (opT o).length <= 30 := by
 have h1 := dY o.n
 have h2 := uZ o.l o.d o.f
 unfold opT
 split
 ·omega
 ·split <;> simp only [apu, Tz, RN, apv, apx] <;> omega
theorem aj0 (r : Rv) : (rvT r).length <= 64 := by
 have h1 := VP r.a
 have h2 := VP r.b
 have h3 := uZ r.l r.d r.f
 have h4 : (Oj r.k r.bo).length <= 5 := by
  unfold Oj
  split
  ·decide
  ·split
   ·decide
   ·split <;> decide
 unfold rvT
 split
 ·omega
 ·split
  ·simp only [apu, apv]; omega
  ·split <;> simp only [apu, apv, apx] <;> omega
structure Stm where
 k : Int
 l : Int
 d : Bool
 f : Int
 r : Rv
 a : Opd
 n : Int
def Rv.no : Rv := ⟨0, Opd.no, Opd.no, 0, 0, 0, false, 0⟩
def Stm.Ok (s : Stm) : Prop :=
 (s.k = 1 /\ InP s.l s.f /\ s.r.Ok /\ s.a = Opd.no /\ s.n = 0) \/
 ((s.k = 2 \/ s.k = 4) /\ s.l = 0 /\ s.d = false /\ s.f = 0 /\ s.r = Rv.no /\ s.a.Ok /\ s.n = 0) \/
 (s.k = 3 /\ s.l = 0 /\ s.d = false /\ s.f = 0 /\ s.r = Rv.no /\ s.a = Opd.no /\ 0 <= s.n /\ s.n < 16)
def Uh : List UInt8 := [32, 58, 61, 32]
def KC : List UInt8 := [112, 114, 105, 110, 116, 32]
def DW : List UInt8 := [97, 115, 115, 101, 114, 116, 32]
def NS : List UInt8 := [102, 114, 101, 115, 104, 32]
def stT (s : Stm) : List UInt8 :=
 if s.k = 1 then bn s.l s.d s.f ++ (Uh ++ rvT s.r) else if s.k = 2 then KC ++ opT s.a else if s.k = 4 then DW ++ opT s.a else NS ++ bn s.n false 0
theorem amD {s t : Stm} (hs : s.Ok) (ht : t.Ok) (e : stT s = stT t) : s = t := by
 obtain ⟨k, l, d, f, r, a, n⟩ := s
 obtain ⟨k', l', d', f', r', a', n'⟩ := t
 have pn : ∀ {l f : Int} {d : Bool} {u : List UInt8} {c : UInt8} {q : List UInt8}, c ≠ 42 -> c ≠ 120 -> bn l d f ++ u = c :: q -> False := fun {l f d u c q} h1 h2 e => by
  cases hp : bn l d f with
  | nil => rw [mW] at hp; cases d <;> simp at hp
  | cons x y =>
   rw [hp] at e
   have ex : x = c := (List.cons.inj e).1
   rcases KD hp with h | h
   ·exact h1 (ex ▸ h)
   ·exact h2 (ex ▸ h)
 rcases hs with ⟨h1, hp, hr, ha, hn⟩ | ⟨h1, z1, z2, z3, hr, ha, hn⟩ | ⟨h1, z1, z2, z3, hr, ha, hn, hm⟩ <;> rcases ht with ⟨g1, gp, gr, ga, gn⟩ | ⟨g1, y1, y2, y3, gr, ga, gn⟩ | ⟨g1, y1, y2, y3, gr, ga, gn, gm⟩ <;> dsimp only at *
 ·subst h1 g1 ha hn ga gn
  have e : bn l d f ++ (Uh ++ rvT r) = bn l' d' f' ++ (Uh ++ rvT r') := e
  obtain ⟨x1, x2⟩ := xO (lY l d f) (lY l' d' f') (pY _) (pY _) e
  obtain ⟨y1, y2, y3⟩ := qV hp gp x1
  have x2 : Uh ++ rvT r = Uh ++ rvT r' := x2
  rw [y1, y2, y3, aly hr gr (apw x2)]
 ·subst h1
  rcases g1 with rfl | rfl
  ·exact (pn (c := 112) (by decide) (by decide) e).elim
  ·exact (pn (c := 97) (by decide) (by decide) e).elim
 ·subst h1 g1
  exact (pn (c := 102) (by decide) (by decide) e).elim
 ·subst g1
  rcases h1 with rfl | rfl
  ·exact (pn (c := 112) (by decide) (by decide) e.symm).elim
  ·exact (pn (c := 97) (by decide) (by decide) e.symm).elim
 ·subst z1 z2 z3 hr hn y1 y2 y3 gr gn
  rcases h1 with rfl | rfl <;> rcases g1 with rfl | rfl
  ·have e : KC ++ opT a = KC ++ opT a' := e
   rw [Vf ha ga (apw e)]
  ·have e : (112 : UInt8) :: ([114, 105, 110, 116, 32] ++ opT a) = 97 :: ([115, 115, 101, 114, 116, 32] ++ opT a') := e
   exact absurd (List.cons.inj e).1 (by decide)
  ·have e : (97 : UInt8) :: ([115, 115, 101, 114, 116, 32] ++ opT a) = 112 :: ([114, 105, 110, 116, 32] ++ opT a') := e
   exact absurd (List.cons.inj e).1 (by decide)
  ·have e : DW ++ opT a = DW ++ opT a' := e
   rw [Vf ha ga (apw e)]
 ·subst g1
  rcases h1 with rfl | rfl
  ·have e : (112 : UInt8) :: ([114, 105, 110, 116, 32] ++ opT a) = 102 :: ([114, 101, 115, 104, 32] ++ bn n' false 0) := e
   exact absurd (List.cons.inj e).1 (by decide)
  ·have e : (97 : UInt8) :: ([115, 115, 101, 114, 116, 32] ++ opT a) = 102 :: ([114, 101, 115, 104, 32] ++ bn n' false 0) := e
   exact absurd (List.cons.inj e).1 (by decide)
 ·subst h1 g1
  exact (pn (c := 102) (by decide) (by decide) e.symm).elim
 ·subst h1
  rcases g1 with rfl | rfl
  ·have e : (102 : UInt8) :: ([114, 101, 115, 104, 32] ++ bn n false 0) = 112 :: ([114, 105, 110, 116, 32] ++ opT a') := e
   exact absurd (List.cons.inj e).1 (by decide)
  ·have e : (102 : UInt8) :: ([114, 101, 115, 104, 32] ++ bn n false 0) = 97 :: ([115, 115, 101, 114, 116, 32] ++ opT a') := e
   exact absurd (List.cons.inj e).1 (by decide)
 ·subst h1 g1 z1 z2 z3 hr ha y1 y2 y3 gr ga
  have e : NS ++ bn n false 0 = NS ++ bn n' false 0 := e
  obtain ⟨y1, _, _⟩ := qV (l := n) (f := 0) (l' := n') (f' := 0) ⟨hn, by omega, by decide, by decide⟩ ⟨gn, by omega, by decide, by decide⟩ (apw e)
  rw [y1]
theorem a3a (s : Stm) : (stT s).length <= 100 := by
 have h1 := uZ s.l s.d s.f
 have h2 := aj0 s.r
 have h3 := VP s.a
 have h4 := uZ s.n false 0
 unfold stT
 split
 ·simp only [apu, Uh, apv, apx]; omega
 ·split
  ·simp only [apu, KC, apv, apx]; omega
  ·split
   ·simp only [apu, DW, apv, apx]; omega
   ·simp only [apu, NS, apv, apx]; omega
def uz (us : List Value) : Stm := ⟨ah us 0, ah us 1, decide (ah us 2 = 1), ah us 3, OD us 4, jh us 20, ah us 25⟩
theorem amf {us : List Value} (h : ak Kd.ok kSt us) : RvR us 4 := ⟨ZA h rfl, ZA h rfl, YP h rfl, YP h rfl, YP h rfl⟩
theorem a1q {us : List Value} {o : Nat} (h : (E.zero (zs o 3)).val us = true) : ah us o = 0 /\ decide (ah us (o + 1) = 1) = false /\ ah us (o + 2) = 0 := by
 have z := Lh h
 refine ⟨z 0 (by decide), ?_, z 2 (by decide)⟩
 rw [z 1 (by decide)]
 rfl
theorem a3U {us : List Value} (h : (E.zero (zs 4 16)).val us = true) : OD us 4 = Rv.no := by
 have z := Lh h
 unfold OD jh
 rw [show ah us 4 = 0 from z 0 (by decide), show ah us (4 + 3) = 0 from z 3 (by decide), show ah us (4 + 3 + 1) = 0 from z 4 (by decide), show ah us (4 + 3 + 2) = 0 from z 5 (by decide), show ah us (4 + 3 + 3) = 0 from z 6 (by decide), show ah us (4 + 3 + 4) = 0 from z 7 (by decide),
  show ah us (4 + 8) = 0 from z 8 (by decide), show ah us (4 + 8 + 1) = 0 from z 9 (by decide), show ah us (4 + 8 + 2) = 0 from z 10 (by decide), show ah us (4 + 8 + 3) = 0 from z 11 (by decide), show ah us (4 + 8 + 4) = 0 from z 12 (by decide),
  show ah us (4 + 1) = 0 from z 1 (by decide), show ah us (4 + 2) = 0 from z 2 (by decide), show ah us (4 + 13) = 0 from z 13 (by decide), show ah us (4 + 14) = 0 from z 14 (by decide), show ah us (4 + 15) = 0 from z 15 (by decide)]
 rfl
theorem aa0 {us : List Value} (h : dn.val us = true) (k : ak Kd.ok kSt us) : (uz us).Ok /\
  ((ah us 0 = 1 /\ (dS 1).val us = true /\ (nM 4).val us = true) \/ ((ah us 0 = 2 \/ ah us 0 = 4) /\ (aY 20).val us = true) \/ ah us 0 = 3) := by
 have v2 : ∀ a b : E, (E.and a b).val us = true -> a.val us = true /\ b.val us = true := fun a b h => by simpa [E.val] using h
 have o2 : ∀ a b : E, (E.or a b).val us = true -> a.val us = true \/ b.val us = true := fun a b h => by simpa [E.val] using h
 rcases o2 _ _ h with h | h
 ·obtain ⟨h1, h⟩ := v2 _ _ h
  obtain ⟨h2, h⟩ := v2 _ _ h
  obtain ⟨h3, h⟩ := v2 _ _ h
  obtain ⟨h4, h5⟩ := v2 _ _ h
  exact ⟨.inl ⟨eY h1, UH h2 (YP k rfl), amd h3 (amf k), Dq h4, eY h5⟩, .inl ⟨eY h1, h2, h3⟩⟩
 rcases o2 _ _ h with h | h
 ·obtain ⟨h1, h⟩ := v2 _ _ h
  obtain ⟨h2, h⟩ := v2 _ _ h
  obtain ⟨h3, h⟩ := v2 _ _ h
  obtain ⟨h4, h5⟩ := v2 _ _ h
  have hk : ah us 0 = 2 \/ ah us 0 = 4 := (o2 _ _ h1).imp eY eY
  obtain ⟨z1, z2, z3⟩ := a1q h2
  exact ⟨.inr (.inl ⟨hk, z1, z2, z3, a3U h3, UE h4 (ZA k rfl) (YP k rfl), eY h5⟩), .inr (.inl ⟨hk, h4⟩)⟩
 ·obtain ⟨h1, h⟩ := v2 _ _ h
  obtain ⟨h2, h⟩ := v2 _ _ h
  obtain ⟨h3, h⟩ := v2 _ _ h
  obtain ⟨h4, h⟩ := v2 _ _ h
  obtain ⟨h5, h6⟩ := v2 _ _ h
  obtain ⟨z1, z2, z3⟩ := a1q h2
  have h5 : (!decide (ah us 25 < 0)) = true := h5
  have h6 : decide (ah us 25 < 16) = true := h6
  simp only [Bool.not_eq_true', decide_eq_false_iff_not, decide_eq_true_eq] at h5 h6
  exact ⟨.inr (.inr ⟨eY h1, z1, z2, z3, a3U h3, Dq h4, by show 0 <= ah us 25; omega, h6⟩), .inr (.inr (eY h1))⟩
theorem anV {us vs : List Value} (hu : ak Kd.ok kSt us) (hv : ak Kd.ok kSt vs) : uz us = uz vs ↔ ∀ i, i < 26 -> ah us i = ah vs i := by
 constructor
 ·intro e
  simp only [uz, OD, jh, Stm.mk.injEq, Rv.mk.injEq, Opd.mk.injEq, Nat.reduceAdd] at e
  obtain ⟨e0, e1, e2, e3, ⟨e4, ⟨e7, e8, e9, e10, e11⟩, ⟨e12, e13, e14, e15, e16⟩, e5, e6, e17, e18, e19⟩, ⟨e20, e21, e22, e23, e24⟩, e25⟩ := e
  intro i hi
  match i, hi with
  | 0, _ => exact e0
  | 1, _ => exact e1
  | 2, _ => exact a9u (Qn hu rfl) (Qn hv rfl) e2
  | 3, _ => exact e3
  | 4, _ => exact e4
  | 5, _ => exact e5
  | 6, _ => exact e6
  | 7, _ => exact e7
  | 8, _ => exact e8
  | 9, _ => exact e9
  | 10, _ => exact a9u (Qn hu rfl) (Qn hv rfl) e10
  | 11, _ => exact e11
  | 12, _ => exact e12
  | 13, _ => exact e13
  | 14, _ => exact e14
  | 15, _ => exact a9u (Qn hu rfl) (Qn hv rfl) e15
  | 16, _ => exact e16
  | 17, _ => exact e17
  | 18, _ => exact a9u (Qn hu rfl) (Qn hv rfl) e18
  | 19, _ => exact e19
  | 20, _ => exact e20
  | 21, _ => exact e21
  | 22, _ => exact e22
  | 23, _ => exact a9u (Qn hu rfl) (Qn hv rfl) e23
  | 24, _ => exact e24
  | 25, _ => exact e25
  | n + 26, hi => exact absurd hi (by omega)
 ·intro h
  simp only [uz, OD, jh, Nat.reduceAdd, h 0 (by decide), h 1 (by decide), h 2 (by decide), h 3 (by decide), h 4 (by decide), h 5 (by decide), h 6 (by decide), h 7 (by decide), h 8 (by decide), h 9 (by decide), h 10 (by decide), h 11 (by decide), h 12 (by decide), h 13 (by decide), h 14 (by decide), h 15 (by decide),
   h 16 (by decide), h 17 (by decide), h 18 (by decide), h 19 (by decide), h 20 (by decide), h 21 (by decide), h 22 (by decide), h 23 (by decide), h 24 (by decide), h 25 (by decide)]
def alz (b : Bool) (ks : List Kd) (pls : List Pl) (L : Lf) (x : S) : Option (List Nat) := bif b then orO (ob (GI L [x, S.bool false, S.int .u8 0] ks.length pls) fun h => some [h]) (ob (a5S ks x) fun n => some (120 :: n)) else ob (a5S ks x) fun n => some (120 :: n)
def stX (b : Bool) (ks : List Kd) (pls : List Pl) (L : Lf) (xs : List S) : Option (List Nat) :=
 ob (nth xs 0) fun k => ob (Pg k) fun k =>
  bif decide (k = 1) then ob (Zx ks pls L xs 1) fun p => ob (rvX ks pls L xs 4) fun r => some (p ++ (tu Uh ++ r))
  else bif decide (k = 2) then ob (opX ks pls L xs 20) fun a => some (tu KC ++ a)
  else bif decide (k = 4) then ob (opX ks pls L xs 20) fun a => some (tu DW ++ a)
  else bif decide (k = 3) then ob (nth xs 25) fun x => ob (alz b ks pls L x) fun n => some (tu NS ++ n)
  else none
section
variable [Base] {r : Ren} {L : Lf} {ks : List Kd} {pls : List Pl} {xs : List S} {us : List Value}
theorem ahu (hL : L.Holds Base.rho Base.sig) (d : Dec ks Base.rho Base.sig) (e : PlE ks.length pls Base.rho Base.sig) {b : Bool} {x : S} {l : List Nat} (h : alz b ks pls L x = some l) {v : Value} (hv : VS r x v) : bH Base.sig l = bn (bf v) false 0 := by
 have key : ∀ {l : List Nat}, (ob (a5S ks x) fun n => some (120 :: n)) = some l -> bH Base.sig l = bn (bf v) false 0 := fun {l} h => by
  obtain ⟨n, hn, h⟩ := aj h
  cases h
  rw [nR (by decide), a2V d hn hv, mW]
  show _ = [] ++ (120 :: (bM (bf v) ++ Js 0))
  simp [Js]
 unfold alz at h
 cases b
 ·exact key h
 ·rcases dN h with h | h
  ·obtain ⟨q, hq, h⟩ := aj h
   cases h
   obtain ⟨j, p, hj, rfl, hp, hok⟩ := zV hq
   have hv3 : ak (VS r) ((plT p).map L.nS) [v, .bool false, .int .u8 0] := by
    rw [hp]
    exact ⟨hv, rfl, rfl, trivial⟩
   have hu := V8 hL hv3
   simp only [List.cons.injEq, and_true] at hu
   obtain ⟨e1, e2, e3⟩ := hu
   rw [gU, e j p hj (VB hL hok), e1]
   have e2 : false = decide (Base.rho p.2.1 = 1) := by injection e2
   have e3 : (0 : Int) = Base.rho p.2.2 := by injection e3
   rw [<- e2, <- e3]
   rfl
  ·exact key h
theorem aaj (hL : L.Holds Base.rho Base.sig) (d : Dec ks Base.rho Base.sig) (e : PlE ks.length pls Base.rho Base.sig) (ha : ak (VS r) xs us) {b : Bool} {l : List Nat} (h : stX b ks pls L xs = some l) :
  bH Base.sig l = stT (uz us) := by
 obtain ⟨x, hx, h⟩ := aj h
 obtain ⟨k, hk, h⟩ := aj h
 obtain ⟨u, k1, v1, c1⟩ := BG ha hx
 rw [yZ hk v1] at c1
 unfold stT
 rw [show (uz us).k = k from c1]
 cases h1 : decide (k = 1) <;> rw [h1] at h <;> simp only [cond_true, cond_false] at h
 case true =>
  simp only [decide_eq_true_eq] at h1
  obtain ⟨p, hp, h⟩ := aj h
  obtain ⟨q, hq, h⟩ := aj h
  cases h
  rw [if_pos h1, dD, dD, jI, zU hL e ha hp, amS hL d e ha hq]
  rfl
 simp only [decide_eq_false_iff_not] at h1
 rw [if_neg h1]
 cases h2 : decide (k = 2) <;> rw [h2] at h <;> simp only [cond_true, cond_false] at h
 case true =>
  simp only [decide_eq_true_eq] at h2
  obtain ⟨p, hp, h⟩ := aj h
  cases h
  rw [if_pos h2, dD, jI, vg hL d e ha hp]
  rfl
 simp only [decide_eq_false_iff_not] at h2
 rw [if_neg h2]
 cases h4 : decide (k = 4) <;> rw [h4] at h <;> simp only [cond_true, cond_false] at h
 case true =>
  simp only [decide_eq_true_eq] at h4
  obtain ⟨p, hp, h⟩ := aj h
  cases h
  rw [if_pos h4, dD, jI, vg hL d e ha hp]
  rfl
 simp only [decide_eq_false_iff_not] at h4
 rw [if_neg h4]
 cases h3 : decide (k = 3) <;> rw [h3] at h <;> simp only [cond_true, cond_false] at h
 ·cases h
 obtain ⟨y, hy, h⟩ := aj h
 obtain ⟨n, hn, h⟩ := aj h
 cases h
 obtain ⟨u2, k2, v2, c2⟩ := BG ha hy
 rw [dD, jI, ahu hL d e hn v2, <- c2]
 rfl
end
def Gh (ks : List Kd) (pls : List Pl) (L : Lf) : aS := fun f a h fl => orR (ag8 (L.know (fD 0 ks)) f a h fl) (amL L ks pls noO f a h fl)
def ahY (F : FuncId) (ks : List Kd) (pls : List Pl) (L : Lf) : R := @runs (L.know (fD 0 ks)) (mY Tryz.prog) (nC Tryz.prog) (Gh ks pls L) 30 15 F [.g (pq ks L)] ⟨[], 0⟩ 0
section
variable {F : FuncId} {ks : List Kd} {e : E} {T : List Value -> List UInt8} {val : List UInt8 -> Value} {pls : List Pl}
theorem SN {mk : S -> V} (hmk : ∀ (b0 : Base) r l u, @VV b0 r (mk (S.vG l)) u -> u = val (bH b0.sig l)) (exp : Lf -> List S -> Option (List Nat))
  (hexp : ∀ (b0 : Base) (L : Lf) (r : Ren) (xs : List S) (us : List Value) (l : List Nat), L.Holds b0.rho b0.sig -> Dec ks b0.rho b0.sig -> PlE ks.length pls b0.rho b0.sig -> @ak _ _ (@VS b0 r) xs us -> exp L xs = some l -> bH b0.sig l = T us)
  (hpl : pls.all (fun p => decide (p.1 < ks.length) && decide (p.2.1 < ks.length) && decide (p.2.2 < ks.length)) = true) {sp : Sp}
  (hrun : ((sp.leaves (Lf.KI [(true, ks)] pls.length)).all fun L => y5 e ks mk (exp L (pq ks L)) L (ahY F ks pls L)) = true) : Texts Tryz.prog dL F ks e T val := by
 intro us hk he w hw
 have hg : Gps [(true, ks)] [.agg us.toArray] us := ⟨us, [], (List.append_nil _).symm, ⟨hk, .inl ⟨rfl, rfl⟩⟩, rfl⟩
 have hks : eu [(true, ks)] = ks := by simp [eu]
 have hlen : us.length = ks.length := by have := hk.len; omega
 have kk := MV hg (JL us pls)
 have d := QJ hg (plX us pls)
 have ee : PlE ks.length pls (dw (jP us (plX us pls))) (fG (jP us (plX us pls))) := by
  rw [<- hlen]
  exact al8 (by rw [hlen]; exact hpl)
 rw [hks] at kk d
 have hl : (plX us pls).length = pls.length := by simp [plX]
 have hst := Lf.QZ hg (JL us pls)
 rw [hl] at hst
 obtain ⟨L, hm, hL⟩ := sp.cover hst
 have hp := List.all_eq_true.1 hrun L hm
 letI b0 : Base := base0 w (Lf.ok hL kk)
 have ha' : ak (VA r0) [.g (bV 0 ks)] [.agg us.toArray] :=
  yS (cs := jP us (plX us pls)) rfl rfl ((plX us pls).map fun x => .string ⟨x.toArray⟩) (gs := [(true, ks)]) (pre := []) (cs' := us) rfl hg
 have ha := Lf.yh hL ha'
 unfold y5 at hp
 cases hb : @E.abs (L.know (fD 0 ks)) ((bV 0 ks).map L.nS) e with
 | none => rw [hb] at hp; cases hp
 | some b =>
  rw [hb] at hp
  have ha2 := ha
  obtain ⟨⟨us', e1, hus⟩, _⟩ := ha2
  have e1 : Value.agg us.toArray = .agg us'.toArray := e1
  obtain rfl : us = us' := by simpa using e1
  have hbv := E.qA hus hb
  rw [he] at hbv
  subst hbv
  have hp : (Option.rec false (fun l => vY (mk (S.vG l)) (ahY F ks pls L)) (exp L (pq ks L)) : Bool) = true := hp
  cases hx : exp L (pq ks L) with
  | none => rw [hx] at hp; cases hp
  | some l =>
   rw [hx] at hp
   obtain ⟨h', hr⟩ := zD hp
   have hS : Sound Tryz.prog (@runs (L.know (fD 0 ks)) (mY Tryz.prog) (nC Tryz.prog) (Gh ks pls L) 30 15) :=
    @CJ w _ _ _ (Lf.ok hL kk) _ (@dZ (base0 w (Lf.ok hL kk)) _ _ _ (Uf (base0 w (Lf.ok hL kk))) (NI hL kk d ee hw (YR _))) 30 15
   refine (iC w hw.size (fun _ _ => rfl) hS ha hr).mono fun x w' ⟨u, r', e1, e2, e3⟩ => ⟨?_, e3⟩
   rw [e1, hmk b0 _ _ _ e2, hexp b0 L r0 _ _ _ hL d ee hus hx]
end
section
variable [Know]
end
section
variable [Base] {r : Ren} {xs : List S} {us : List Value}
end
section
variable {F : FuncId} {ks : List Kd} {e : E} {T : List Value -> List Int} {pls : List Pl}
end
section
variable {F : FuncId} {ks : List Kd} {e : E} {T : List Value -> List Int} {pls : List Pl}
end
end Am
end Go.Proofs.YtglmonlofejcgaaGreatDoor
