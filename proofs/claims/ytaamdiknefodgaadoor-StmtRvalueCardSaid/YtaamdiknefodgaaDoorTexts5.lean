/- Texts of statements, out of their cells. -/
import Derived.Test.YtaamdiknefodgaaDoorRvs4U
import Derived.Test.YtaamdiknefodgaaDoorTests5
namespace Go.Proofs.YtaamdiknefodgaaDoor.Am
open Go.RowKit
set_option linter.unusedSectionVars false
set_option linter.unusedVariables false

/-- a statement: its kind, place, rvalue, operand, local -/
structure Stm where
  k : Int
  l : Int
  d : Bool
  f : Int
  r : Rv
  a : Opd
  n : Int
def Rv.no : Rv := ⟨0, Opd.no, Opd.no, 0, 0, 0, false, 0⟩
def Stm.Ok (s : Stm) : Prop :=
  (s.k = 1 ∧ InP s.l s.f ∧ s.r.Ok ∧ s.a = Opd.no ∧ s.n = 0) ∨
  ((s.k = 2 ∨ s.k = 4) ∧ s.l = 0 ∧ s.d = false ∧ s.f = 0 ∧ s.r = Rv.no ∧ s.a.Ok ∧ s.n = 0) ∨
  (s.k = 3 ∧ s.l = 0 ∧ s.d = false ∧ s.f = 0 ∧ s.r = Rv.no ∧ s.a = Opd.no ∧ 0 ≤ s.n ∧ s.n < 16)
def setT : List UInt8 := [32, 58, 61, 32]
def printT : List UInt8 := [112, 114, 105, 110, 116, 32]
def assertT : List UInt8 := [97, 115, 115, 101, 114, 116, 32]
def freshT : List UInt8 := [102, 114, 101, 115, 104, 32]
def stT (s : Stm) : List UInt8 :=
  if s.k = 1 then placeT s.l s.d s.f ++ (setT ++ rvT s.r) else if s.k = 2 then printT ++ opT s.a else if s.k = 4 then assertT ++ opT s.a else freshT ++ placeT s.n false 0
/-- the text of a statement is the text of one alone -/
theorem st_one {s t : Stm} (hs : s.Ok) (ht : t.Ok) (e : stT s = stT t) : s = t := by
  obtain ⟨k, l, d, f, r, a, n⟩ := s
  obtain ⟨k', l', d', f', r', a', n'⟩ := t
  have pn : ∀ {l f : Int} {d : Bool} {u : List UInt8} {c : UInt8} {q : List UInt8}, c ≠ 42 → c ≠ 120 → placeT l d f ++ u = c :: q → False := fun {l f d u c q} h1 h2 e => by
    cases hp : placeT l d f with
    | nil => rw [placeT_eq] at hp; cases d <;> simp at hp
    | cons x y =>
      rw [hp] at e
      have ex : x = c := (List.cons.inj e).1
      rcases place_head hp with h | h
      · exact h1 (ex ▸ h)
      · exact h2 (ex ▸ h)
  rcases hs with ⟨h1, hp, hr, ha, hn⟩ | ⟨h1, z1, z2, z3, hr, ha, hn⟩ | ⟨h1, z1, z2, z3, hr, ha, hn, hm⟩ <;> rcases ht with ⟨g1, gp, gr, ga, gn⟩ | ⟨g1, y1, y2, y3, gr, ga, gn⟩ | ⟨g1, y1, y2, y3, gr, ga, gn, gm⟩ <;> dsimp only at *
  · subst h1 g1 ha hn ga gn
    have e : placeT l d f ++ (setT ++ rvT r) = placeT l' d' f' ++ (setT ++ rvT r') := e
    obtain ⟨x1, x2⟩ := cut_eq (placeT_plc l d f) (placeT_plc l' d' f') (rest_32 _) (rest_32 _) e
    obtain ⟨y1, y2, y3⟩ := placeT_one hp gp x1
    have x2 : setT ++ rvT r = setT ++ rvT r' := x2
    rw [y1, y2, y3, rv_one hr gr (List.append_cancel_left x2)]
  · subst h1
    rcases g1 with rfl | rfl
    · exact (pn (c := 112) (by decide) (by decide) e).elim
    · exact (pn (c := 97) (by decide) (by decide) e).elim
  · subst h1 g1
    exact (pn (c := 102) (by decide) (by decide) e).elim
  · subst g1
    rcases h1 with rfl | rfl
    · exact (pn (c := 112) (by decide) (by decide) e.symm).elim
    · exact (pn (c := 97) (by decide) (by decide) e.symm).elim
  · subst z1 z2 z3 hr hn y1 y2 y3 gr gn
    rcases h1 with rfl | rfl <;> rcases g1 with rfl | rfl
    · have e : printT ++ opT a = printT ++ opT a' := e
      rw [op_one ha ga (List.append_cancel_left e)]
    · have e : (112 : UInt8) :: ([114, 105, 110, 116, 32] ++ opT a) = 97 :: ([115, 115, 101, 114, 116, 32] ++ opT a') := e
      exact absurd (List.cons.inj e).1 (by decide)
    · have e : (97 : UInt8) :: ([115, 115, 101, 114, 116, 32] ++ opT a) = 112 :: ([114, 105, 110, 116, 32] ++ opT a') := e
      exact absurd (List.cons.inj e).1 (by decide)
    · have e : assertT ++ opT a = assertT ++ opT a' := e
      rw [op_one ha ga (List.append_cancel_left e)]
  · subst g1
    rcases h1 with rfl | rfl
    · have e : (112 : UInt8) :: ([114, 105, 110, 116, 32] ++ opT a) = 102 :: ([114, 101, 115, 104, 32] ++ placeT n' false 0) := e
      exact absurd (List.cons.inj e).1 (by decide)
    · have e : (97 : UInt8) :: ([115, 115, 101, 114, 116, 32] ++ opT a) = 102 :: ([114, 101, 115, 104, 32] ++ placeT n' false 0) := e
      exact absurd (List.cons.inj e).1 (by decide)
  · subst h1 g1
    exact (pn (c := 102) (by decide) (by decide) e.symm).elim
  · subst h1
    rcases g1 with rfl | rfl
    · have e : (102 : UInt8) :: ([114, 101, 115, 104, 32] ++ placeT n false 0) = 112 :: ([114, 105, 110, 116, 32] ++ opT a') := e
      exact absurd (List.cons.inj e).1 (by decide)
    · have e : (102 : UInt8) :: ([114, 101, 115, 104, 32] ++ placeT n false 0) = 97 :: ([115, 115, 101, 114, 116, 32] ++ opT a') := e
      exact absurd (List.cons.inj e).1 (by decide)
  · subst h1 g1 z1 z2 z3 hr ha y1 y2 y3 gr ga
    have e : freshT ++ placeT n false 0 = freshT ++ placeT n' false 0 := e
    obtain ⟨y1, _, _⟩ := placeT_one (l := n) (f := 0) (l' := n') (f' := 0) ⟨hn, by omega, by decide, by decide⟩ ⟨gn, by omega, by decide, by decide⟩ (List.append_cancel_left e)
    rw [y1]
theorem stT_any (s : Stm) : (stT s).length ≤ 100 := by
  have h1 := placeT_any s.l s.d s.f
  have h2 := rvT_any s.r
  have h3 := opT_any s.a
  have h4 := placeT_any s.n false 0
  unfold stT
  split
  · simp only [List.length_append, setT, List.length_cons, List.length_nil]; omega
  · split
    · simp only [List.length_append, printT, List.length_cons, List.length_nil]; omega
    · split
      · simp only [List.length_append, assertT, List.length_cons, List.length_nil]; omega
      · simp only [List.length_append, freshT, List.length_cons, List.length_nil]; omega

def stOf (us : List Value) : Stm := ⟨cellI us 0, cellI us 1, decide (cellI us 2 = 1), cellI us 3, rvAt us 4, opdAt us 20, cellI us 25⟩
theorem stR_ok {us : List Value} (h : All2 Kd.ok kSt us) : RvR us 4 := ⟨ok_i64 h rfl, ok_i64 h rfl, ok_u8 h rfl, ok_u8 h rfl, ok_u8 h rfl⟩
theorem zs3_val {us : List Value} {o : Nat} (h : (E.zero (zs o 3)).val us = true) : cellI us o = 0 ∧ decide (cellI us (o + 1) = 1) = false ∧ cellI us (o + 2) = 0 := by
  have z := zs_val h
  refine ⟨z 0 (by decide), ?_, z 2 (by decide)⟩
  rw [z 1 (by decide)]
  rfl
theorem rv0_val {us : List Value} (h : (E.zero (zs 4 16)).val us = true) : rvAt us 4 = Rv.no := by
  have z := zs_val h
  unfold rvAt opdAt
  rw [show cellI us 4 = 0 from z 0 (by decide), show cellI us (4 + 3) = 0 from z 3 (by decide), show cellI us (4 + 3 + 1) = 0 from z 4 (by decide), show cellI us (4 + 3 + 2) = 0 from z 5 (by decide), show cellI us (4 + 3 + 3) = 0 from z 6 (by decide), show cellI us (4 + 3 + 4) = 0 from z 7 (by decide),
    show cellI us (4 + 8) = 0 from z 8 (by decide), show cellI us (4 + 8 + 1) = 0 from z 9 (by decide), show cellI us (4 + 8 + 2) = 0 from z 10 (by decide), show cellI us (4 + 8 + 3) = 0 from z 11 (by decide), show cellI us (4 + 8 + 4) = 0 from z 12 (by decide),
    show cellI us (4 + 1) = 0 from z 1 (by decide), show cellI us (4 + 2) = 0 from z 2 (by decide), show cellI us (4 + 13) = 0 from z 13 (by decide), show cellI us (4 + 14) = 0 from z 14 (by decide), show cellI us (4 + 15) = 0 from z 15 (by decide)]
  rfl
/-- what a valid statement is -/
theorem st_val {us : List Value} (h : okStE.val us = true) (k : All2 Kd.ok kSt us) : (stOf us).Ok ∧
    ((cellI us 0 = 1 ∧ (okPlE 1).val us = true ∧ (okRvE 4).val us = true) ∨ ((cellI us 0 = 2 ∨ cellI us 0 = 4) ∧ (okOpE 20).val us = true) ∨ cellI us 0 = 3) := by
  have v2 : ∀ a b : E, (E.and a b).val us = true → a.val us = true ∧ b.val us = true := fun a b h => by simpa [E.val] using h
  have o2 : ∀ a b : E, (E.or a b).val us = true → a.val us = true ∨ b.val us = true := fun a b h => by simpa [E.val] using h
  rcases o2 _ _ h with h | h
  · obtain ⟨h1, h⟩ := v2 _ _ h
    obtain ⟨h2, h⟩ := v2 _ _ h
    obtain ⟨h3, h⟩ := v2 _ _ h
    obtain ⟨h4, h5⟩ := v2 _ _ h
    exact ⟨.inl ⟨one_val h1, pl_val h2 (ok_u8 k rfl), rv_val h3 (stR_ok k), no_val h4, one_val h5⟩, .inl ⟨one_val h1, h2, h3⟩⟩
  rcases o2 _ _ h with h | h
  · obtain ⟨h1, h⟩ := v2 _ _ h
    obtain ⟨h2, h⟩ := v2 _ _ h
    obtain ⟨h3, h⟩ := v2 _ _ h
    obtain ⟨h4, h5⟩ := v2 _ _ h
    have hk : cellI us 0 = 2 ∨ cellI us 0 = 4 := (o2 _ _ h1).imp one_val one_val
    obtain ⟨z1, z2, z3⟩ := zs3_val h2
    exact ⟨.inr (.inl ⟨hk, z1, z2, z3, rv0_val h3, op_val h4 (ok_i64 k rfl) (ok_u8 k rfl), one_val h5⟩), .inr (.inl ⟨hk, h4⟩)⟩
  · obtain ⟨h1, h⟩ := v2 _ _ h
    obtain ⟨h2, h⟩ := v2 _ _ h
    obtain ⟨h3, h⟩ := v2 _ _ h
    obtain ⟨h4, h⟩ := v2 _ _ h
    obtain ⟨h5, h6⟩ := v2 _ _ h
    obtain ⟨z1, z2, z3⟩ := zs3_val h2
    have h5 : (!decide (cellI us 25 < 0)) = true := h5
    have h6 : decide (cellI us 25 < 16) = true := h6
    simp only [Bool.not_eq_true', decide_eq_false_iff_not, decide_eq_true_eq] at h5 h6
    exact ⟨.inr (.inr ⟨one_val h1, z1, z2, z3, rv0_val h3, no_val h4, by show 0 ≤ cellI us 25; omega, h6⟩), .inr (.inr (one_val h1))⟩
theorem st_eq {us vs : List Value} (hu : All2 Kd.ok kSt us) (hv : All2 Kd.ok kSt vs) : stOf us = stOf vs ↔ ∀ i, i < 26 → cellI us i = cellI vs i := by
  constructor
  · intro e
    simp only [stOf, rvAt, opdAt, Stm.mk.injEq, Rv.mk.injEq, Opd.mk.injEq, Nat.reduceAdd] at e
    obtain ⟨e0, e1, e2, e3, ⟨e4, ⟨e7, e8, e9, e10, e11⟩, ⟨e12, e13, e14, e15, e16⟩, e5, e6, e17, e18, e19⟩, ⟨e20, e21, e22, e23, e24⟩, e25⟩ := e
    intro i hi
    match i, hi with
    | 0, _ => exact e0
    | 1, _ => exact e1
    | 2, _ => exact dec1 (ok_b hu rfl) (ok_b hv rfl) e2
    | 3, _ => exact e3
    | 4, _ => exact e4
    | 5, _ => exact e5
    | 6, _ => exact e6
    | 7, _ => exact e7
    | 8, _ => exact e8
    | 9, _ => exact e9
    | 10, _ => exact dec1 (ok_b hu rfl) (ok_b hv rfl) e10
    | 11, _ => exact e11
    | 12, _ => exact e12
    | 13, _ => exact e13
    | 14, _ => exact e14
    | 15, _ => exact dec1 (ok_b hu rfl) (ok_b hv rfl) e15
    | 16, _ => exact e16
    | 17, _ => exact e17
    | 18, _ => exact dec1 (ok_b hu rfl) (ok_b hv rfl) e18
    | 19, _ => exact e19
    | 20, _ => exact e20
    | 21, _ => exact e21
    | 22, _ => exact e22
    | 23, _ => exact dec1 (ok_b hu rfl) (ok_b hv rfl) e23
    | 24, _ => exact e24
    | 25, _ => exact e25
    | n + 26, hi => exact absurd hi (by omega)
  · intro h
    simp only [stOf, rvAt, opdAt, Nat.reduceAdd, h 0 (by decide), h 1 (by decide), h 2 (by decide), h 3 (by decide), h 4 (by decide), h 5 (by decide), h 6 (by decide), h 7 (by decide), h 8 (by decide), h 9 (by decide), h 10 (by decide), h 11 (by decide), h 12 (by decide), h 13 (by decide), h 14 (by decide), h 15 (by decide),
      h 16 (by decide), h 17 (by decide), h 18 (by decide), h 19 (by decide), h 20 (by decide), h 21 (by decide), h 22 (by decide), h 23 (by decide), h 24 (by decide), h 25 (by decide)]

/-! the text of cells that are not written out -/
/-- a new local's text: of a place, or of its number -/
noncomputable def locX (b : Bool) (ks : List Kd) (pls : List Pl) (L : Lf) (x : S) : Option (List Nat) := bif b then orO (ob (findPl L [x, S.bool false, S.int .u8 0] ks.length pls) fun h => some [h]) (ob (numX ks x) fun n => some (120 :: n)) else ob (numX ks x) fun n => some (120 :: n)
noncomputable def stX (b : Bool) (ks : List Kd) (pls : List Pl) (L : Lf) (xs : List S) : Option (List Nat) :=
  ob (nth xs 0) fun k => ob (kindX k) fun k =>
    bif decide (k = 1) then ob (plcX ks pls L xs 1) fun p => ob (rvX ks pls L xs 4) fun r => some (p ++ (bytesX setT ++ r))
    else bif decide (k = 2) then ob (opX ks pls L xs 20) fun a => some (bytesX printT ++ a)
    else bif decide (k = 4) then ob (opX ks pls L xs 20) fun a => some (bytesX assertT ++ a)
    else bif decide (k = 3) then ob (nth xs 25) fun x => ob (locX b ks pls L x) fun n => some (bytesX freshT ++ n)
    else none
section
variable [Base] {r : Ren} {L : Lf} {ks : List Kd} {pls : List Pl} {xs : List S} {us : List Value}
theorem locX_ok (hL : L.Holds Base.rho Base.sig) (d : Dec ks Base.rho Base.sig) (e : PlE ks.length pls Base.rho Base.sig) {b : Bool} {x : S} {l : List Nat} (h : locX b ks pls L x = some l) {v : Value} (hv : VS r x v) : strX Base.sig l = placeT (codeI v) false 0 := by
  have key : ∀ {l : List Nat}, (ob (numX ks x) fun n => some (120 :: n)) = some l → strX Base.sig l = placeT (codeI v) false 0 := fun {l} h => by
    obtain ⟨n, hn, h⟩ := ob_some h
    cases h
    rw [strX_cons (by decide), numX_ok d hn hv, placeT_eq]
    show _ = [] ++ (120 :: (decT (codeI v) ++ fldT 0))
    simp [fldT]
  unfold locX at h
  cases b
  · exact key h
  · rcases orO_some h with h | h
    · obtain ⟨q, hq, h⟩ := ob_some h
      cases h
      obtain ⟨j, p, hj, rfl, hp, hok⟩ := findPl_ok hq
      have hv3 : All2 (VS r) ((plT p).map L.nS) [v, .bool false, .int .u8 0] := by
        rw [hp]
        exact ⟨hv, rfl, rfl, trivial⟩
      have hu := pl_vals hL hv3
      simp only [List.cons.injEq, and_true] at hu
      obtain ⟨e1, e2, e3⟩ := hu
      rw [strX_one, e j p hj (okPl_in hL hok), e1]
      have e2 : false = decide (Base.rho p.2.1 = 1) := by injection e2
      have e3 : (0 : Int) = Base.rho p.2.2 := by injection e3
      rw [← e2, ← e3]
      rfl
    · exact key h
theorem stX_ok (hL : L.Holds Base.rho Base.sig) (d : Dec ks Base.rho Base.sig) (e : PlE ks.length pls Base.rho Base.sig) (ha : All2 (VS r) xs us) {b : Bool} {l : List Nat} (h : stX b ks pls L xs = some l) :
    strX Base.sig l = stT (stOf us) := by
  obtain ⟨x, hx, h⟩ := ob_some h
  obtain ⟨k, hk, h⟩ := ob_some h
  obtain ⟨u, k1, v1, c1⟩ := cellX ha hx
  rw [kindX_ok hk v1] at c1
  unfold stT
  rw [show (stOf us).k = k from c1]
  cases h1 : decide (k = 1) <;> rw [h1] at h <;> simp only [cond_true, cond_false] at h
  case true =>
    simp only [decide_eq_true_eq] at h1
    obtain ⟨p, hp, h⟩ := ob_some h
    obtain ⟨q, hq, h⟩ := ob_some h
    cases h
    rw [if_pos h1, strX_append, strX_append, strX_bytes, plcX_ok hL e ha hp, rvX_ok hL d e ha hq]
    rfl
  simp only [decide_eq_false_iff_not] at h1
  rw [if_neg h1]
  cases h2 : decide (k = 2) <;> rw [h2] at h <;> simp only [cond_true, cond_false] at h
  case true =>
    simp only [decide_eq_true_eq] at h2
    obtain ⟨p, hp, h⟩ := ob_some h
    cases h
    rw [if_pos h2, strX_append, strX_bytes, opX_ok hL d e ha hp]
    rfl
  simp only [decide_eq_false_iff_not] at h2
  rw [if_neg h2]
  cases h4 : decide (k = 4) <;> rw [h4] at h <;> simp only [cond_true, cond_false] at h
  case true =>
    simp only [decide_eq_true_eq] at h4
    obtain ⟨p, hp, h⟩ := ob_some h
    cases h
    rw [if_pos h4, strX_append, strX_bytes, opX_ok hL d e ha hp]
    rfl
  simp only [decide_eq_false_iff_not] at h4
  rw [if_neg h4]
  cases h3 : decide (k = 3) <;> rw [h3] at h <;> simp only [cond_true, cond_false] at h
  · cases h
  obtain ⟨y, hy, h⟩ := ob_some h
  obtain ⟨n, hn, h⟩ := ob_some h
  cases h
  obtain ⟨u2, k2, v2, c2⟩ := cellX ha hy
  rw [strX_append, strX_bytes, locX_ok hL d e hn v2, ← c2]
  rfl
end
/-! statements: Check by a test, too -/
noncomputable def libS (ks : List Kd) (pls : List Pl) (L : Lf) : Oracle := fun f a h fl => orR (valid5 (L.know (strsT 0 ks)) f a h fl) (orcX L ks pls noO f a h fl)
noncomputable def runS (F : FuncId) (ks : List Kd) (pls : List Pl) (L : Lf) : R := @runs (L.know (strsT 0 ks)) (tyOf Tryd.prog) (fnOf Tryd.prog) (libS ks pls L) 30 15 F [.g (cellsL ks L)] ⟨[], 0⟩ 0
section
variable {F : FuncId} {ks : List Kd} {e : E} {T : List Value → List UInt8} {val : List UInt8 → Value} {pls : List Pl}
theorem texts_ofS {mk : S → V} (hmk : ∀ (b0 : Base) r l u, @VV b0 r (mk (S.ofXs l)) u → u = val (strX b0.sig l)) (exp : Lf → List S → Option (List Nat))
    (hexp : ∀ (b0 : Base) (L : Lf) (r : Ren) (xs : List S) (us : List Value) (l : List Nat), L.Holds b0.rho b0.sig → Dec ks b0.rho b0.sig → PlE ks.length pls b0.rho b0.sig → @All2 _ _ (@VS b0 r) xs us → exp L xs = some l → strX b0.sig l = T us)
    (hpl : pls.all (fun p => decide (p.1 < ks.length) && decide (p.2.1 < ks.length) && decide (p.2.2 < ks.length)) = true) {sp : Sp}
    (hrun : ((sp.leaves (Lf.startX [(true, ks)] pls.length)).all fun L => textAt e ks mk (exp L (cellsL ks L)) L (runS F ks pls L)) = true) : Texts Tryd.prog TabOk F ks e T val := by
  intro us hk he w hw
  have hg : Gps [(true, ks)] [.agg us.toArray] us := ⟨us, [], (List.append_nil _).symm, ⟨hk, .inl ⟨rfl, rfl⟩⟩, rfl⟩
  have hks : kindsT [(true, ks)] = ks := by simp [kindsT]
  have hlen : us.length = ks.length := by have := hk.len; omega
  have kk := lens_withX hg (plX_len us pls)
  have d := dec_withX hg (plX us pls)
  have ee : PlE ks.length pls (rhoOf (withX us (plX us pls))) (sigOf (withX us (plX us pls))) := by
    rw [← hlen]
    exact plX_E (by rw [hlen]; exact hpl)
  rw [hks] at kk d
  have hl : (plX us pls).length = pls.length := by simp [plX]
  have hst := Lf.startX_ok hg (plX_len us pls)
  rw [hl] at hst
  obtain ⟨L, hm, hL⟩ := sp.cover hst
  have hp := List.all_eq_true.1 hrun L hm
  letI b0 : Base := base0 w (Lf.ok hL kk)
  have ha' : All2 (VA r0) [.g (cellsT 0 ks)] [.agg us.toArray] :=
    argsT_ok (cs := withX us (plX us pls)) rfl rfl ((plX us pls).map fun x => .string ⟨x.toArray⟩) (gs := [(true, ks)]) (pre := []) (cs' := us) rfl hg
  have ha := Lf.nAs_ok hL ha'
  unfold textAt at hp
  cases hb : @E.abs (L.know (strsT 0 ks)) ((cellsT 0 ks).map L.nS) e with
  | none => rw [hb] at hp; cases hp
  | some b =>
    rw [hb] at hp
    have ha2 := ha
    obtain ⟨⟨us', e1, hus⟩, _⟩ := ha2
    have e1 : Value.agg us.toArray = .agg us'.toArray := e1
    obtain rfl : us = us' := by simpa using e1
    have hbv := E.abs_ok hus hb
    rw [he] at hbv
    subst hbv
    have hp : (Option.rec false (fun l => sayV (mk (S.ofXs l)) (runS F ks pls L)) (exp L (cellsL ks L)) : Bool) = true := hp
    cases hx : exp L (cellsL ks L) with
    | none => rw [hx] at hp; cases hp
    | some l =>
      rw [hx] at hp
      obtain ⟨h', hr⟩ := sayV_is hp
      have hS : Sound Tryd.prog (@runs (L.know (strsT 0 ks)) (tyOf Tryd.prog) (fnOf Tryd.prog) (libS ks pls L) 30 15) :=
        @sound_runs w _ _ _ (Lf.ok hL kk) _ (@sound_or (base0 w (Lf.ok hL kk)) _ _ _ (sound_valid5 (base0 w (Lf.ok hL kk))) (sound_orcX hL kk d ee hw (sound_no _))) 30 15
      refine (calls_flat w hw.size (fun _ _ => rfl) hS ha hr).mono fun x w' ⟨u, r', e1, e2, e3⟩ => ⟨?_, e3⟩
      rw [e1, hmk b0 _ _ _ e2, hexp b0 L r0 _ _ _ hL d ee hus hx]
end
end Go.Proofs.YtaamdiknefodgaaDoor.Am
