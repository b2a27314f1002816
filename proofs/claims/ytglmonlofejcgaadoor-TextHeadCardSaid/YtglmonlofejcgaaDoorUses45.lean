/- Rvalues as lists of cells: parts, equality, lengths of texts. Texts of statements, out of their cells. slices.Insert at []int: the library's contracts, at this program. What statements use and move: lists of locals; functions of one struct that answer with a list of numbers. What rvalues use: value.Uses answers with a list, pawnshopref04.Used with truth values. What rvalues use: the runs. What rvalues move: value.Moves. -/
import Derived.Test.YtglmonlofejcgaaDoorJump5
import Derived.Test.YtglmonlofejcgaaDoorAmC
import Derived.Test.YtglmonlofejcgaaDoorTests5
import Derived.Test.YtglmonlofejcgaaDoorProg
import Derived.Shelf.Spec.SlicesInsert
import Derived.Shelf.Spec.SlicesInsertGrow
/-! Rvalues as lists of cells: parts, equality, lengths of texts. -/
namespace Go.Proofs.YtglmonlofejcgaaDoor.Am
open Go.RowKit
set_option linter.unusedVariables false

/-! lengths -/
theorem placeT_any (l : Int) (d : Bool) (f : Int) : (placeT l d f).length ≤ 25 := by
  have := decT_len l
  rw [placeT_eq]
  have hf : (fldT f).length ≤ 2 := by
    unfold fldT
    split
    · decide
    · split <;> decide
  cases d <;> simp <;> omega
theorem opT_any (o : Opd) : (opT o).length ≤ 30 := by
  have h1 := decT_len o.n
  have h2 := placeT_any o.l o.d o.f
  unfold opT
  split
  · omega
  · split <;> simp only [List.length_append, copyT, moveT, List.length_cons, List.length_nil] <;> omega
theorem rvT_any (r : Rv) : (rvT r).length ≤ 64 := by
  have h1 := opT_any r.a
  have h2 := opT_any r.b
  have h3 := placeT_any r.l r.d r.f
  have h4 : (borT r.k r.bo).length ≤ 5 := by
    unfold borT
    split
    · decide
    · split
      · decide
      · split <;> decide
  unfold rvT
  split
  · omega
  · split
    · simp only [List.length_append, List.length_cons]; omega
    · split <;> simp only [List.length_append, List.length_cons, List.length_nil] <;> omega
end Go.Proofs.YtglmonlofejcgaaDoor.Am
/-! Texts of statements, out of their cells. -/
namespace Go.Proofs.YtglmonlofejcgaaDoor.Am
open Go.RowKit
set_option linter.unusedSectionVars false
set_option linter.unusedVariables false

/-- a statement: its kind, place, rvalue, operand, local -/
structure Stm where
  k : Int
  l : Int
  d : Bool
  f : Int
  r : Rv
  a : Opd
  n : Int
def Rv.no : Rv := ⟨0, Opd.no, Opd.no, 0, 0, 0, false, 0⟩
def Stm.Ok (s : Stm) : Prop :=
  (s.k = 1 ∧ InP s.l s.f ∧ s.r.Ok ∧ s.a = Opd.no ∧ s.n = 0) ∨
  ((s.k = 2 ∨ s.k = 4) ∧ s.l = 0 ∧ s.d = false ∧ s.f = 0 ∧ s.r = Rv.no ∧ s.a.Ok ∧ s.n = 0) ∨
  (s.k = 3 ∧ s.l = 0 ∧ s.d = false ∧ s.f = 0 ∧ s.r = Rv.no ∧ s.a = Opd.no ∧ 0 ≤ s.n ∧ s.n < 16)
def setT : List UInt8 := [32, 58, 61, 32]
def printT : List UInt8 := [112, 114, 105, 110, 116, 32]
def assertT : List UInt8 := [97, 115, 115, 101, 114, 116, 32]
def freshT : List UInt8 := [102, 114, 101, 115, 104, 32]
def stT (s : Stm) : List UInt8 :=
  if s.k = 1 then placeT s.l s.d s.f ++ (setT ++ rvT s.r) else if s.k = 2 then printT ++ opT s.a else if s.k = 4 then assertT ++ opT s.a else freshT ++ placeT s.n false 0
theorem stT_any (s : Stm) : (stT s).length ≤ 100 := by
  have h1 := placeT_any s.l s.d s.f
  have h2 := rvT_any s.r
  have h3 := opT_any s.a
  have h4 := placeT_any s.n false 0
  unfold stT
  split
  · simp only [List.length_append, setT, List.length_cons, List.length_nil]; omega
  · split
    · simp only [List.length_append, printT, List.length_cons, List.length_nil]; omega
    · split
      · simp only [List.length_append, assertT, List.length_cons, List.length_nil]; omega
      · simp only [List.length_append, freshT, List.length_cons, List.length_nil]; omega

def stOf (us : List Value) : Stm := ⟨cellI us 0, cellI us 1, decide (cellI us 2 = 1), cellI us 3, rvAt us 4, opdAt us 20, cellI us 25⟩
/-! the text of cells that are not written out -/
/-- a new local's text: of a place, or of its number -/
noncomputable def locX (b : Bool) (ks : List Kd) (pls : List Pl) (L : Lf) (x : S) : Option (List Nat) := bif b then orO (ob (findPl L [x, S.bool false, S.int .u8 0] ks.length pls) fun h => some [h]) (ob (numX ks x) fun n => some (120 :: n)) else ob (numX ks x) fun n => some (120 :: n)
noncomputable def stX (b : Bool) (ks : List Kd) (pls : List Pl) (L : Lf) (xs : List S) : Option (List Nat) :=
  ob (nth xs 0) fun k => ob (kindX k) fun k =>
    bif decide (k = 1) then ob (plcX ks pls L xs 1) fun p => ob (rvX ks pls L xs 4) fun r => some (p ++ (bytesX setT ++ r))
    else bif decide (k = 2) then ob (opX ks pls L xs 20) fun a => some (bytesX printT ++ a)
    else bif decide (k = 4) then ob (opX ks pls L xs 20) fun a => some (bytesX assertT ++ a)
    else bif decide (k = 3) then ob (nth xs 25) fun x => ob (locX b ks pls L x) fun n => some (bytesX freshT ++ n)
    else none
section
variable [Base] {r : Ren} {L : Lf} {ks : List Kd} {pls : List Pl} {xs : List S} {us : List Value}
theorem locX_ok (hL : L.Holds Base.rho Base.sig) (d : Dec ks Base.rho Base.sig) (e : PlE ks.length pls Base.rho Base.sig) {b : Bool} {x : S} {l : List Nat} (h : locX b ks pls L x = some l) {v : Value} (hv : VS r x v) : strX Base.sig l = placeT (codeI v) false 0 := by
  have key : ∀ {l : List Nat}, (ob (numX ks x) fun n => some (120 :: n)) = some l → strX Base.sig l = placeT (codeI v) false 0 := fun {l} h => by
    obtain ⟨n, hn, h⟩ := ob_some h
    cases h
    rw [strX_cons (by decide), numX_ok d hn hv, placeT_eq]
    show _ = [] ++ (120 :: (decT (codeI v) ++ fldT 0))
    simp [fldT]
  unfold locX at h
  cases b
  · exact key h
  · rcases orO_some h with h | h
    · obtain ⟨q, hq, h⟩ := ob_some h
      cases h
      obtain ⟨j, p, hj, rfl, hp, hok⟩ := findPl_ok hq
      have hv3 : All2 (VS r) ((plT p).map L.nS) [v, .bool false, .int .u8 0] := by
        rw [hp]
        exact ⟨hv, rfl, rfl, trivial⟩
      have hu := pl_vals hL hv3
      simp only [List.cons.injEq, and_true] at hu
      obtain ⟨e1, e2, e3⟩ := hu
      rw [strX_one, e j p hj (okPl_in hL hok), e1]
      have e2 : false = decide (Base.rho p.2.1 = 1) := by injection e2
      have e3 : (0 : Int) = Base.rho p.2.2 := by injection e3
      rw [← e2, ← e3]
      rfl
    · exact key h
theorem stX_ok (hL : L.Holds Base.rho Base.sig) (d : Dec ks Base.rho Base.sig) (e : PlE ks.length pls Base.rho Base.sig) (ha : All2 (VS r) xs us) {b : Bool} {l : List Nat} (h : stX b ks pls L xs = some l) :
    strX Base.sig l = stT (stOf us) := by
  obtain ⟨x, hx, h⟩ := ob_some h
  obtain ⟨k, hk, h⟩ := ob_some h
  obtain ⟨u, k1, v1, c1⟩ := cellX ha hx
  rw [kindX_ok hk v1] at c1
  unfold stT
  rw [show (stOf us).k = k from c1]
  cases h1 : decide (k = 1) <;> rw [h1] at h <;> simp only [cond_true, cond_false] at h
  case true =>
    simp only [decide_eq_true_eq] at h1
    obtain ⟨p, hp, h⟩ := ob_some h
    obtain ⟨q, hq, h⟩ := ob_some h
    cases h
    rw [if_pos h1, strX_append, strX_append, strX_bytes, plcX_ok hL e ha hp, rvX_ok hL d e ha hq]
    rfl
  simp only [decide_eq_false_iff_not] at h1
  rw [if_neg h1]
  cases h2 : decide (k = 2) <;> rw [h2] at h <;> simp only [cond_true, cond_false] at h
  case true =>
    simp only [decide_eq_true_eq] at h2
    obtain ⟨p, hp, h⟩ := ob_some h
    cases h
    rw [if_pos h2, strX_append, strX_bytes, opX_ok hL d e ha hp]
    rfl
  simp only [decide_eq_false_iff_not] at h2
  rw [if_neg h2]
  cases h4 : decide (k = 4) <;> rw [h4] at h <;> simp only [cond_true, cond_false] at h
  case true =>
    simp only [decide_eq_true_eq] at h4
    obtain ⟨p, hp, h⟩ := ob_some h
    cases h
    rw [if_pos h4, strX_append, strX_bytes, opX_ok hL d e ha hp]
    rfl
  simp only [decide_eq_false_iff_not] at h4
  rw [if_neg h4]
  cases h3 : decide (k = 3) <;> rw [h3] at h <;> simp only [cond_true, cond_false] at h
  · cases h
  obtain ⟨y, hy, h⟩ := ob_some h
  obtain ⟨n, hn, h⟩ := ob_some h
  cases h
  obtain ⟨u2, k2, v2, c2⟩ := cellX ha hy
  rw [strX_append, strX_bytes, locX_ok hL d e hn v2, ← c2]
  rfl
end
/-! statements: Check by a test, too -/
noncomputable def libS (ks : List Kd) (pls : List Pl) (L : Lf) : Oracle := fun f a h fl => orR (valid5 (L.know (strsT 0 ks)) f a h fl) (orcX L ks pls noO f a h fl)
noncomputable def runS (F : FuncId) (ks : List Kd) (pls : List Pl) (L : Lf) : R := @runs (L.know (strsT 0 ks)) (tyOf Tryd.prog) (fnOf Tryd.prog) (libS ks pls L) 30 15 F [.g (cellsL ks L)] ⟨[], 0⟩ 0
section
variable {F : FuncId} {ks : List Kd} {e : E} {T : List Value → List UInt8} {val : List UInt8 → Value} {pls : List Pl}
theorem texts_ofS {mk : S → V} (hmk : ∀ (b0 : Base) r l u, @VV b0 r (mk (S.ofXs l)) u → u = val (strX b0.sig l)) (exp : Lf → List S → Option (List Nat))
    (hexp : ∀ (b0 : Base) (L : Lf) (r : Ren) (xs : List S) (us : List Value) (l : List Nat), L.Holds b0.rho b0.sig → Dec ks b0.rho b0.sig → PlE ks.length pls b0.rho b0.sig → @All2 _ _ (@VS b0 r) xs us → exp L xs = some l → strX b0.sig l = T us)
    (hpl : pls.all (fun p => decide (p.1 < ks.length) && decide (p.2.1 < ks.length) && decide (p.2.2 < ks.length)) = true) {sp : Sp}
    (hrun : ((sp.leaves (Lf.startX [(true, ks)] pls.length)).all fun L => textAt e ks mk (exp L (cellsL ks L)) L (runS F ks pls L)) = true) : Texts Tryd.prog TabOk F ks e T val := by
  intro us hk he w hw
  have hg : Gps [(true, ks)] [.agg us.toArray] us := ⟨us, [], (List.append_nil _).symm, ⟨hk, .inl ⟨rfl, rfl⟩⟩, rfl⟩
  have hks : kindsT [(true, ks)] = ks := by simp [kindsT]
  have hlen : us.length = ks.length := by have := hk.len; omega
  have kk := lens_withX hg (plX_len us pls)
  have d := dec_withX hg (plX us pls)
  have ee : PlE ks.length pls (rhoOf (withX us (plX us pls))) (sigOf (withX us (plX us pls))) := by
    rw [← hlen]
    exact plX_E (by rw [hlen]; exact hpl)
  rw [hks] at kk d
  have hl : (plX us pls).length = pls.length := by simp [plX]
  have hst := Lf.startX_ok hg (plX_len us pls)
  rw [hl] at hst
  obtain ⟨L, hm, hL⟩ := sp.cover hst
  have hp := List.all_eq_true.1 hrun L hm
  letI b0 : Base := base0 w (Lf.ok hL kk)
  have ha' : All2 (VA r0) [.g (cellsT 0 ks)] [.agg us.toArray] :=
    argsT_ok (cs := withX us (plX us pls)) rfl rfl ((plX us pls).map fun x => .string ⟨x.toArray⟩) (gs := [(true, ks)]) (pre := []) (cs' := us) rfl hg
  have ha := Lf.nAs_ok hL ha'
  unfold textAt at hp
  cases hb : @E.abs (L.know (strsT 0 ks)) ((cellsT 0 ks).map L.nS) e with
  | none => rw [hb] at hp; cases hp
  | some b =>
    rw [hb] at hp
    have ha2 := ha
    obtain ⟨⟨us', e1, hus⟩, _⟩ := ha2
    have e1 : Value.agg us.toArray = .agg us'.toArray := e1
    obtain rfl : us = us' := by simpa using e1
    have hbv := E.abs_ok hus hb
    rw [he] at hbv
    subst hbv
    have hp : (Option.rec false (fun l => sayV (mk (S.ofXs l)) (runS F ks pls L)) (exp L (cellsL ks L)) : Bool) = true := hp
    cases hx : exp L (cellsL ks L) with
    | none => rw [hx] at hp; cases hp
    | some l =>
      rw [hx] at hp
      obtain ⟨h', hr⟩ := sayV_is hp
      have hS : Sound Tryd.prog (@runs (L.know (strsT 0 ks)) (tyOf Tryd.prog) (fnOf Tryd.prog) (libS ks pls L) 30 15) :=
        @sound_runs w _ _ _ (Lf.ok hL kk) _ (@sound_or (base0 w (Lf.ok hL kk)) _ _ _ (sound_valid5 (base0 w (Lf.ok hL kk))) (sound_orcX hL kk d ee hw (sound_no _))) 30 15
      refine (calls_flat w hw.size (fun _ _ => rfl) hS ha hr).mono fun x w' ⟨u, r', e1, e2, e3⟩ => ⟨?_, e3⟩
      rw [e1, hmk b0 _ _ _ e2, hexp b0 L r0 _ _ _ hL d ee hus hx]
end
end Go.Proofs.YtglmonlofejcgaaDoor.Am
/-! slices.Insert at []int: the library's contracts, at this program. -/
namespace Go.Proofs.YtglmonlofejcgaaDoor.Am
open Go.RowKit
end Go.Proofs.YtglmonlofejcgaaDoor.Am
/-! What statements use and move: lists of locals; functions of one struct that answer with a list of numbers. -/
namespace Go.Proofs.YtglmonlofejcgaaDoor.Am
open Go.RowKit
set_option linter.unusedSectionVars false
set_option linter.unusedVariables false

/-! sorted lists of numbers -/
/-! .. of numbers that are not written out -/
section
variable [Know]
end
section
variable [Base] {r : Ren} {xs : List S} {us : List Value}
end
/-! functions of one struct that answer with a list -/
section
variable {F : FuncId} {ks : List Kd} {e : E} {T : List Value → List Int} {pls : List Pl}
end
end Go.Proofs.YtglmonlofejcgaaDoor.Am
/-! What rvalues use: value.Uses answers with a list, pawnshopref04.Used with truth values. -/
namespace Go.Proofs.YtglmonlofejcgaaDoor.Am
open Go.RowKit
set_option linter.unusedSectionVars false
set_option linter.unusedVariables false
section
variable {F : FuncId} {ks : List Kd} {e : E} {T : List Value → List Int} {pls : List Pl}
end
end Go.Proofs.YtglmonlofejcgaaDoor.Am
/-! What rvalues use: the runs. -/
namespace Go.Proofs.YtglmonlofejcgaaDoor.Am
open Go.RowKit
set_option maxRecDepth 100000
end Go.Proofs.YtglmonlofejcgaaDoor.Am
/-! What rvalues move: value.Moves. -/
namespace Go.Proofs.YtglmonlofejcgaaDoor.Am
open Go.RowKit
set_option maxRecDepth 100000
end Go.Proofs.YtglmonlofejcgaaDoor.Am
