/- Rvalues as lists of cells: parts, equality, lengths of texts. Texts of statements, out of their cells. slices.Insert at []int: the library's contracts, at this program. What statements use and move: lists of locals; functions of one struct that answer with a list of numbers. What rvalues use: value.Uses answers with a list, pawnshopref04.Used with truth values. What rvalues use: the runs. What rvalues move: value.Moves. The text of a function, line by line, in plain words. How long the lines of a function are, up to each place. In plain words. -/
import Derived.Test.YtglmonlofejcgaaDoorJump5
import Derived.Test.YtglmonlofejcgaaDoorAmC
import Derived.Test.YtglmonlofejcgaaDoorTests5
import Derived.Test.YtglmonlofejcgaaDoorProg
import Derived.Shelf.Spec.SlicesInsert
import Derived.Shelf.Spec.SlicesInsertGrow
import Derived.Test.YtglmonlofejcgaaDoorJump6
import Derived.Test.YtglmonlofejcgaaDoorFn1
namespace Go.Proofs.YtglmonlofejcgaaDoor.Am
open Go.RowKit
set_option linter.unusedVariables false
theorem placeT_any (l : Int) (d : Bool) (f : Int) : (placeT l d f).length ≤ 25 := by
 have := decT_len l
 rw [placeT_eq]
 have hf : (fldT f).length ≤ 2 := by
  unfold fldT
  split
  ·decide
  ·split <;> decide
 cases d <;> simp <;> omega
theorem opT_any (o : Opd) : (opT o).length ≤ 30 := by
 have h1 := decT_len o.n
 have h2 := placeT_any o.l o.d o.f
 unfold opT
 split
 ·omega
 ·split <;> simp only [List.length_append, copyT, moveT, List.length_cons, List.length_nil] <;> omega
theorem rvT_any (r : Rv) : (rvT r).length ≤ 64 := by
 have h1 := opT_any r.a
 have h2 := opT_any r.b
 have h3 := placeT_any r.l r.d r.f
 have h4 : (borT r.k r.bo).length ≤ 5 := by
  unfold borT
  split
  ·decide
  ·split
   ·decide
   ·split <;> decide
 unfold rvT
 split
 ·omega
 ·split
  ·simp only [List.length_append, List.length_cons]; omega
  ·split <;> simp only [List.length_append, List.length_cons, List.length_nil] <;> omega
end Go.Proofs.YtglmonlofejcgaaDoor.Am
namespace Go.Proofs.YtglmonlofejcgaaDoor.Am
open Go.RowKit
set_option linter.unusedSectionVars false
set_option linter.unusedVariables false
structure Stm where
 k : Int
 l : Int
 d : Bool
 f : Int
 r : Rv
 a : Opd
 n : Int
def Rv.no : Rv := ⟨0, Opd.no, Opd.no, 0, 0, 0, false, 0⟩
def Stm.Ok (s : Stm) : Prop :=
 (s.k = 1 ∧ InP s.l s.f ∧ s.r.Ok ∧ s.a = Opd.no ∧ s.n = 0) ∨
 ((s.k = 2 ∨ s.k = 4) ∧ s.l = 0 ∧ s.d = false ∧ s.f = 0 ∧ s.r = Rv.no ∧ s.a.Ok ∧ s.n = 0) ∨
 (s.k = 3 ∧ s.l = 0 ∧ s.d = false ∧ s.f = 0 ∧ s.r = Rv.no ∧ s.a = Opd.no ∧ 0 ≤ s.n ∧ s.n < 16)
def setT : List UInt8 := [32, 58, 61, 32]
def printT : List UInt8 := [112, 114, 105, 110, 116, 32]
def assertT : List UInt8 := [97, 115, 115, 101, 114, 116, 32]
def freshT : List UInt8 := [102, 114, 101, 115, 104, 32]
def stT (s : Stm) : List UInt8 :=
 if s.k = 1 then placeT s.l s.d s.f ++ (setT ++ rvT s.r) else if s.k = 2 then printT ++ opT s.a else if s.k = 4 then assertT ++ opT s.a else freshT ++ placeT s.n false 0
theorem stT_any (s : Stm) : (stT s).length ≤ 100 := by
 have h1 := placeT_any s.l s.d s.f
 have h2 := rvT_any s.r
 have h3 := opT_any s.a
 have h4 := placeT_any s.n false 0
 unfold stT
 split
 ·simp only [List.length_append, setT, List.length_cons, List.length_nil]; omega
 ·split
  ·simp only [List.length_append, printT, List.length_cons, List.length_nil]; omega
  ·split
   ·simp only [List.length_append, assertT, List.length_cons, List.length_nil]; omega
   ·simp only [List.length_append, freshT, List.length_cons, List.length_nil]; omega
def stOf (us : List Value) : Stm := ⟨cellI us 0, cellI us 1, decide (cellI us 2 = 1), cellI us 3, rvAt us 4, opdAt us 20, cellI us 25⟩
noncomputable def locX (b : Bool) (ks : List Kd) (pls : List Pl) (L : Lf) (x : S) : Option (List Nat) := bif b then orO (ob (findPl L [x, S.bool false, S.int .u8 0] ks.length pls) fun h => some [h]) (ob (numX ks x) fun n => some (120 :: n)) else ob (numX ks x) fun n => some (120 :: n)
noncomputable def stX (b : Bool) (ks : List Kd) (pls : List Pl) (L : Lf) (xs : List S) : Option (List Nat) :=
 ob (nth xs 0) fun k => ob (kindX k) fun k =>
  bif decide (k = 1) then ob (plcX ks pls L xs 1) fun p => ob (rvX ks pls L xs 4) fun r => some (p ++ (bytesX setT ++ r))
  else bif decide (k = 2) then ob (opX ks pls L xs 20) fun a => some (bytesX printT ++ a)
  else bif decide (k = 4) then ob (opX ks pls L xs 20) fun a => some (bytesX assertT ++ a)
  else bif decide (k = 3) then ob (nth xs 25) fun x => ob (locX b ks pls L x) fun n => some (bytesX freshT ++ n)
  else none
section
variable [Base] {r : Ren} {L : Lf} {ks : List Kd} {pls : List Pl} {xs : List S} {us : List Value}
theorem locX_ok (hL : L.Holds Base.rho Base.sig) (d : Dec ks Base.rho Base.sig) (e : PlE ks.length pls Base.rho Base.sig) {b : Bool} {x : S} {l : List Nat} (h : locX b ks pls L x = some l) {v : Value} (hv : VS r x v) : strX Base.sig l = placeT (codeI v) false 0 := by
 have key : ∀ {l : List Nat}, (ob (numX ks x) fun n => some (120 :: n)) = some l → strX Base.sig l = placeT (codeI v) false 0 := fun {l} h => by
  obtain ⟨n, hn, h⟩ := ob_some h
  cases h
  rw [strX_cons (by decide), numX_ok d hn hv, placeT_eq]
  show _ = [] ++ (120 :: (decT (codeI v) ++ fldT 0))
  simp [fldT]
 unfold locX at h
 cases b
 ·exact key h
 ·rcases orO_some h with h | h
  ·obtain ⟨q, hq, h⟩ := ob_some h
   cases h
   obtain ⟨j, p, hj, rfl, hp, hok⟩ := findPl_ok hq
   have hv3 : All2 (VS r) ((plT p).map L.nS) [v, .bool false, .int .u8 0] := by
    rw [hp]
    exact ⟨hv, rfl, rfl, trivial⟩
   have hu := pl_vals hL hv3
   simp only [List.cons.injEq, and_true] at hu
   obtain ⟨e1, e2, e3⟩ := hu
   rw [strX_one, e j p hj (okPl_in hL hok), e1]
   have e2 : false = decide (Base.rho p.2.1 = 1) := by injection e2
   have e3 : (0 : Int) = Base.rho p.2.2 := by injection e3
   rw [← e2, ← e3]
   rfl
  ·exact key h
theorem stX_ok (hL : L.Holds Base.rho Base.sig) (d : Dec ks Base.rho Base.sig) (e : PlE ks.length pls Base.rho Base.sig) (ha : All2 (VS r) xs us) {b : Bool} {l : List Nat} (h : stX b ks pls L xs = some l) :
  strX Base.sig l = stT (stOf us) := by
 obtain ⟨x, hx, h⟩ := ob_some h
 obtain ⟨k, hk, h⟩ := ob_some h
 obtain ⟨u, k1, v1, c1⟩ := cellX ha hx
 rw [kindX_ok hk v1] at c1
 unfold stT
 rw [show (stOf us).k = k from c1]
 cases h1 : decide (k = 1) <;> rw [h1] at h <;> simp only [cond_true, cond_false] at h
 case true =>
  simp only [decide_eq_true_eq] at h1
  obtain ⟨p, hp, h⟩ := ob_some h
  obtain ⟨q, hq, h⟩ := ob_some h
  cases h
  rw [if_pos h1, strX_append, strX_append, strX_bytes, plcX_ok hL e ha hp, rvX_ok hL d e ha hq]
  rfl
 simp only [decide_eq_false_iff_not] at h1
 rw [if_neg h1]
 cases h2 : decide (k = 2) <;> rw [h2] at h <;> simp only [cond_true, cond_false] at h
 case true =>
  simp only [decide_eq_true_eq] at h2
  obtain ⟨p, hp, h⟩ := ob_some h
  cases h
  rw [if_pos h2, strX_append, strX_bytes, opX_ok hL d e ha hp]
  rfl
 simp only [decide_eq_false_iff_not] at h2
 rw [if_neg h2]
 cases h4 : decide (k = 4) <;> rw [h4] at h <;> simp only [cond_true, cond_false] at h
 case true =>
  simp only [decide_eq_true_eq] at h4
  obtain ⟨p, hp, h⟩ := ob_some h
  cases h
  rw [if_pos h4, strX_append, strX_bytes, opX_ok hL d e ha hp]
  rfl
 simp only [decide_eq_false_iff_not] at h4
 rw [if_neg h4]
 cases h3 : decide (k = 3) <;> rw [h3] at h <;> simp only [cond_true, cond_false] at h
 ·cases h
 obtain ⟨y, hy, h⟩ := ob_some h
 obtain ⟨n, hn, h⟩ := ob_some h
 cases h
 obtain ⟨u2, k2, v2, c2⟩ := cellX ha hy
 rw [strX_append, strX_bytes, locX_ok hL d e hn v2, ← c2]
 rfl
end
noncomputable def libS (ks : List Kd) (pls : List Pl) (L : Lf) : Oracle := fun f a h fl => orR (valid5 (L.know (strsT 0 ks)) f a h fl) (orcX L ks pls noO f a h fl)
noncomputable def runS (F : FuncId) (ks : List Kd) (pls : List Pl) (L : Lf) : R := @runs (L.know (strsT 0 ks)) (tyOf Tryd.prog) (fnOf Tryd.prog) (libS ks pls L) 30 15 F [.g (cellsL ks L)] ⟨[], 0⟩ 0
section
variable {F : FuncId} {ks : List Kd} {e : E} {T : List Value → List UInt8} {val : List UInt8 → Value} {pls : List Pl}
theorem texts_ofS {mk : S → V} (hmk : ∀ (b0 : Base) r l u, @VV b0 r (mk (S.ofXs l)) u → u = val (strX b0.sig l)) (exp : Lf → List S → Option (List Nat))
  (hexp : ∀ (b0 : Base) (L : Lf) (r : Ren) (xs : List S) (us : List Value) (l : List Nat), L.Holds b0.rho b0.sig → Dec ks b0.rho b0.sig → PlE ks.length pls b0.rho b0.sig → @All2 _ _ (@VS b0 r) xs us → exp L xs = some l → strX b0.sig l = T us)
  (hpl : pls.all (fun p => decide (p.1 < ks.length) && decide (p.2.1 < ks.length) && decide (p.2.2 < ks.length)) = true) {sp : Sp}
  (hrun : ((sp.leaves (Lf.startX [(true, ks)] pls.length)).all fun L => textAt e ks mk (exp L (cellsL ks L)) L (runS F ks pls L)) = true) : Texts Tryd.prog TabOk F ks e T val := by
 intro us hk he w hw
 have hg : Gps [(true, ks)] [.agg us.toArray] us := ⟨us, [], (List.append_nil _).symm, ⟨hk, .inl ⟨rfl, rfl⟩⟩, rfl⟩
 have hks : kindsT [(true, ks)] = ks := by simp [kindsT]
 have hlen : us.length = ks.length := by have := hk.len; omega
 have kk := lens_withX hg (plX_len us pls)
 have d := dec_withX hg (plX us pls)
 have ee : PlE ks.length pls (rhoOf (withX us (plX us pls))) (sigOf (withX us (plX us pls))) := by
  rw [← hlen]
  exact plX_E (by rw [hlen]; exact hpl)
 rw [hks] at kk d
 have hl : (plX us pls).length = pls.length := by simp [plX]
 have hst := Lf.startX_ok hg (plX_len us pls)
 rw [hl] at hst
 obtain ⟨L, hm, hL⟩ := sp.cover hst
 have hp := List.all_eq_true.1 hrun L hm
 letI b0 : Base := base0 w (Lf.ok hL kk)
 have ha' : All2 (VA r0) [.g (cellsT 0 ks)] [.agg us.toArray] :=
  argsT_ok (cs := withX us (plX us pls)) rfl rfl ((plX us pls).map fun x => .string ⟨x.toArray⟩) (gs := [(true, ks)]) (pre := []) (cs' := us) rfl hg
 have ha := Lf.nAs_ok hL ha'
 unfold textAt at hp
 cases hb : @E.abs (L.know (strsT 0 ks)) ((cellsT 0 ks).map L.nS) e with
 | none => rw [hb] at hp; cases hp
 | some b =>
  rw [hb] at hp
  have ha2 := ha
  obtain ⟨⟨us', e1, hus⟩, _⟩ := ha2
  have e1 : Value.agg us.toArray = .agg us'.toArray := e1
  obtain rfl : us = us' := by simpa using e1
  have hbv := E.abs_ok hus hb
  rw [he] at hbv
  subst hbv
  have hp : (Option.rec false (fun l => sayV (mk (S.ofXs l)) (runS F ks pls L)) (exp L (cellsL ks L)) : Bool) = true := hp
  cases hx : exp L (cellsL ks L) with
  | none => rw [hx] at hp; cases hp
  | some l =>
   rw [hx] at hp
   obtain ⟨h', hr⟩ := sayV_is hp
   have hS : Sound Tryd.prog (@runs (L.know (strsT 0 ks)) (tyOf Tryd.prog) (fnOf Tryd.prog) (libS ks pls L) 30 15) :=
    @sound_runs w _ _ _ (Lf.ok hL kk) _ (@sound_or (base0 w (Lf.ok hL kk)) _ _ _ (sound_valid5 (base0 w (Lf.ok hL kk))) (sound_orcX hL kk d ee hw (sound_no _))) 30 15
   refine (calls_flat w hw.size (fun _ _ => rfl) hS ha hr).mono fun x w' ⟨u, r', e1, e2, e3⟩ => ⟨?_, e3⟩
   rw [e1, hmk b0 _ _ _ e2, hexp b0 L r0 _ _ _ hL d ee hus hx]
end
end Go.Proofs.YtglmonlofejcgaaDoor.Am
namespace Go.Proofs.YtglmonlofejcgaaDoor.Am
open Go.RowKit
end Go.Proofs.YtglmonlofejcgaaDoor.Am
namespace Go.Proofs.YtglmonlofejcgaaDoor.Am
open Go.RowKit
set_option linter.unusedSectionVars false
set_option linter.unusedVariables false
section
variable [Know]
end
section
variable [Base] {r : Ren} {xs : List S} {us : List Value}
end
section
variable {F : FuncId} {ks : List Kd} {e : E} {T : List Value → List Int} {pls : List Pl}
end
end Go.Proofs.YtglmonlofejcgaaDoor.Am
namespace Go.Proofs.YtglmonlofejcgaaDoor.Am
open Go.RowKit
set_option linter.unusedSectionVars false
set_option linter.unusedVariables false
section
variable {F : FuncId} {ks : List Kd} {e : E} {T : List Value → List Int} {pls : List Pl}
end
end Go.Proofs.YtglmonlofejcgaaDoor.Am
namespace Go.Proofs.YtglmonlofejcgaaDoor.Am
open Go.RowKit
set_option maxRecDepth 100000
end Go.Proofs.YtglmonlofejcgaaDoor.Am
namespace Go.Proofs.YtglmonlofejcgaaDoor.Am
open Go.RowKit
set_option maxRecDepth 100000
end Go.Proofs.YtglmonlofejcgaaDoor.Am
namespace Go.Proofs.YtglmonlofejcgaaDoor.txt
open Go.RowKit Go.Proofs.YtglmonlofejcgaaDoor Go.Proofs.YtglmonlofejcgaaDoor.Am
set_option linter.unusedVariables false
def baseT (k : Int) : List UInt8 := if k = 1 then [105, 110, 116] else [112, 97, 105, 114]
def markT (k : Int) : List UInt8 := if k = 3 then [38] else if k = 4 then [38, 109, 117, 116, 32] else [42]
def typT (t : List Value) : List UInt8 := if cellI t 1 = 0 then baseT (cellI t 0) else markT (cellI t 0) ++ baseT (cellI t 1)
def unsT (u : Bool) : List UInt8 := if u then [32, 117, 110, 115, 97, 102, 101] else []
def headT (n p : Int) (u : Bool) : List UInt8 := [102, 110, 32] ++ (decT n ++ ([32, 40] ++ (decT p ++ ([41] ++ unsT u))))
def locT (i : Nat) (t : List Value) : List UInt8 := 120 :: (decT (i : Nat) ++ ([58, 32] ++ typT t))
def bhT (i : Nat) : List UInt8 := 98 :: (decT (i : Nat) ++ [58])
def stL (el : List Value) : List UInt8 := [32, 32] ++ stT (stOf el)
def jmL (b : BlkD) : List UInt8 := [32, 32] ++ jumpT b.pre b.ops b.post
def noB : BlkD := ⟨.bool false, [], .bool false, [], [], []⟩
def locsTo (D : FnD) (i : Nat) : List (List UInt8) := (List.range i).map fun k => locT k (D.ls.getD k [])
def blkL (i : Nat) (b : BlkD) : List (List UInt8) := bhT i :: (b.st.map stL ++ [jmL b])
def blksTo (D : FnD) (i : Nat) : List (List UInt8) := (List.range i).flatMap fun k => blkL k (D.bs.getD k noB)
def linesF (D : FnD) (n : Int) : List (List UInt8) := headT n D.p D.u :: (locsTo D D.ls.length ++ blksTo D D.bs.length)
def nl (ls : List (List UInt8)) : List UInt8 := ls.flatMap fun l => l ++ [10]
def textF (D : FnD) (n : Int) : List UInt8 := nl (linesF D n)
theorem nl_append (a b : List (List UInt8)) : nl (a ++ b) = nl a ++ nl b := by simp [nl]
theorem nl_cons (l : List UInt8) (b : List (List UInt8)) : nl (l :: b) = l ++ (10 :: nl b) := by simp [nl]
theorem nl_one (l : List UInt8) : nl [l] = l ++ [10] := by simp [nl]
theorem nl_push (a : List (List UInt8)) (l : List UInt8) : nl (a ++ [l]) = nl a ++ (l ++ [10]) := by rw [nl_append, nl_one]
theorem locs_next (D : FnD) (i : Nat) : locsTo D (i + 1) = locsTo D i ++ [locT i (D.ls.getD i [])] := by simp [locsTo, List.range_succ]
theorem blks_next (D : FnD) (i : Nat) : blksTo D (i + 1) = blksTo D i ++ blkL i (D.bs.getD i noB) := by simp [blksTo, List.range_succ]
theorem locs_len (D : FnD) (i : Nat) : (locsTo D i).length = i := by simp [locsTo]
theorem typT_len (t : List Value) : (typT t).length ≤ 9 := by
 have hb : ∀ k, (baseT k).length ≤ 4 := fun k => by unfold baseT; split <;> simp
 have hm : ∀ k, (markT k).length ≤ 5 := fun k => by
  unfold markT
  split
  ·simp
  ·split <;> simp
 unfold typT
 split
 ·have := hb (cellI t 0); omega
 ·have := hb (cellI t 1); have := hm (cellI t 0); rw [List.length_append]; omega
theorem unsT_len (u : Bool) : (unsT u).length ≤ 7 := by cases u <;> simp [unsT]
theorem headT_len (n p : Int) (u : Bool) : (headT n p u).length ≤ 1100 := by
 have h1 := decT_len n
 have h2 := decT_len p
 have h3 := unsT_len u
 simp only [headT, List.length_append, List.length_cons, List.length_nil]
 omega
theorem locT_len (i : Nat) (t : List Value) : (locT i t).length ≤ 1100 := by
 have h1 := decT_len (i : Nat)
 have h2 := typT_len t
 simp only [locT, List.length_append, List.length_cons, List.length_nil]
 omega
theorem bhT_len (i : Nat) : (bhT i).length ≤ 1100 := by
 have h1 := decT_len (i : Nat)
 simp only [bhT, List.length_append, List.length_cons, List.length_nil]
 omega
theorem stL_len (el : List Value) : (stL el).length ≤ 1100 := by
 have h1 := stT_any (stOf el)
 simp only [stL, List.length_append, List.length_cons, List.length_nil]
 omega
theorem nl_len : ∀ {ls : List (List UInt8)}, (∀ l ∈ ls, l.length ≤ 1100) → (nl ls).length ≤ 1101 * ls.length
 | [], _ => by simp [nl]
 | l :: ls, h => by
  have h1 := h l List.mem_cons_self
  have h2 := nl_len fun x hx => h x (List.mem_cons_of_mem _ hx)
  rw [nl_cons]
  simp only [List.length_append, List.length_cons]
  omega
end Go.Proofs.YtglmonlofejcgaaDoor.txt
namespace Go.Proofs.YtglmonlofejcgaaDoor.txt
open Go.RowKit Go.Proofs.YtglmonlofejcgaaDoor Go.Proofs.YtglmonlofejcgaaDoor.Am
set_option linter.unusedVariables false
def linL (D : FnD) (n : Int) (i : Nat) : List (List UInt8) := headT n D.p D.u :: locsTo D i
def linB (D : FnD) (n : Int) (i : Nat) : List (List UInt8) := headT n D.p D.u :: (locsTo D D.ls.length ++ blksTo D i)
def linS (D : FnD) (n : Int) (i k : Nat) : List (List UInt8) := linB D n i ++ (bhT i :: ((D.bs.getD i noB).st.take k).map stL)
theorem linL_zero (D : FnD) (n : Int) : linL D n 0 = [headT n D.p D.u] := rfl
theorem linL_next (D : FnD) (n : Int) (i : Nat) : linL D n (i + 1) = linL D n i ++ [locT i (D.ls.getD i [])] := by unfold linL; rw [locs_next]; rfl
theorem linL_all (D : FnD) (n : Int) : linL D n D.ls.length = linB D n 0 := by simp [linL, linB, blksTo]
theorem linS_zero (D : FnD) (n : Int) (i : Nat) : linS D n i 0 = linB D n i ++ [bhT i] := by simp [linS]
theorem linS_next {D : FnD} {n : Int} {i k : Nat} {el : List Value} (h : (D.bs.getD i noB).st[k]? = some el) : linS D n i (k + 1) = linS D n i k ++ [stL el] := by
 unfold linS
 rw [List.take_add_one, h]
 simp
theorem linS_all (D : FnD) (n : Int) (i : Nat) : linS D n i (D.bs.getD i noB).st.length ++ [jmL (D.bs.getD i noB)] = linB D n (i + 1) := by
 unfold linS linB
 rw [blks_next]
 simp [blkL]
structure Lim (D : FnD) : Prop where
 l0 : 0 < D.ls.length
 b0 : 0 < D.bs.length
 l : D.ls.length ≤ 16
 b : D.bs.length ≤ 24
 s : ∀ b ∈ D.bs, b.st.length ≤ 24
 o : ∀ b ∈ D.bs, b.ops.length < 9
theorem getD_or {α : Type} (l : List α) (i : Nat) (d : α) : l.getD i d ∈ l ∨ l.getD i d = d := by
 rw [List.getD_eq_getElem?_getD]
 cases h : l[i]? with
 | none => exact .inr rfl
 | some x => exact .inl (List.mem_of_getElem? h)
theorem jmL_len {D : FnD} (h : Lim D) (i : Nat) : (jmL (D.bs.getD i noB)).length ≤ 1100 := by
 have h1 : (D.bs.getD i noB).ops.length < 9 := by
  rcases getD_or D.bs i noB with k | k
  ·exact h.o _ k
  ·rw [k]; decide
 have := jumpT_len (pre := (D.bs.getD i noB).pre) (post := (D.bs.getD i noB).post) h1
 simp only [jmL, List.length_append, List.length_cons, List.length_nil]
 omega
theorem st_len {D : FnD} (h : Lim D) (i : Nat) : (D.bs.getD i noB).st.length ≤ 24 := by
 rcases getD_or D.bs i noB with k | k
 ·exact h.s _ k
 ·rw [k]; decide
theorem blkL_len {D : FnD} (h : Lim D) (i : Nat) : (blkL i (D.bs.getD i noB)).length ≤ 26 := by
 have := st_len h i
 simp only [blkL, List.length_append, List.length_cons, List.length_nil, List.length_map]
 omega
theorem blks_len {D : FnD} (h : Lim D) : ∀ i, (blksTo D i).length ≤ 26 * i
 | 0 => by simp [blksTo]
 | i + 1 => by
  have := blks_len h i
  have := blkL_len h i
  rw [blks_next, List.length_append]
  omega
theorem locs_le (D : FnD) (i : Nat) : ∀ l ∈ locsTo D i, l.length ≤ 1100 := fun l hl => by
 obtain ⟨k, _, rfl⟩ := List.mem_map.1 hl
 exact locT_len _ _
theorem blks_le {D : FnD} (h : Lim D) (i : Nat) : ∀ l ∈ blksTo D i, l.length ≤ 1100 := fun l hl => by
 obtain ⟨k, _, hl⟩ := List.mem_flatMap.1 hl
 rcases List.mem_cons.1 hl with rfl | hl
 ·exact bhT_len _
 ·rcases List.mem_append.1 hl with hl | hl
  ·obtain ⟨s, _, rfl⟩ := List.mem_map.1 hl
   exact stL_len _
  ·rw [List.mem_singleton.1 hl]; exact jmL_len h k
theorem linL_lim {D : FnD} (h : Lim D) (n : Int) {i : Nat} (hi : i ≤ D.ls.length) : (nl (linL D n i)).length ≤ 1000000 := by
 have h1 : ∀ l ∈ linL D n i, l.length ≤ 1100 := fun l hl => by
  rcases List.mem_cons.1 hl with rfl | hl
  ·exact headT_len _ _ _
  ·exact locs_le _ _ l hl
 have h2 := nl_len h1
 have h3 : (linL D n i).length = i + 1 := by simp [linL, locs_len]
 have := h.l
 omega
theorem linB_le {D : FnD} (h : Lim D) (n : Int) (i : Nat) : ∀ l ∈ linB D n i, l.length ≤ 1100 := fun l hl => by
 rcases List.mem_cons.1 hl with rfl | hl
 ·exact headT_len _ _ _
 ·rcases List.mem_append.1 hl with hl | hl
  ·exact locs_le _ _ l hl
  ·exact blks_le h _ l hl
theorem linB_cnt {D : FnD} (h : Lim D) (n : Int) (i : Nat) : (linB D n i).length ≤ 17 + 26 * i := by
 have := blks_len h i
 have := h.l
 simp only [linB, List.length_cons, List.length_append, locs_len]
 omega
theorem linB_lim {D : FnD} (h : Lim D) (n : Int) {i : Nat} (hi : i ≤ D.bs.length) : (nl (linB D n i)).length ≤ 1000000 := by
 have h2 := nl_len (linB_le h n i)
 have h3 := linB_cnt h n i
 have := h.b
 omega
theorem linS_lim {D : FnD} (h : Lim D) (n : Int) {i k : Nat} (hi : i < D.bs.length) : (nl (linS D n i k)).length ≤ 1000000 := by
 have h1 : ∀ l ∈ linS D n i k, l.length ≤ 1100 := fun l hl => by
  rcases List.mem_append.1 hl with hl | hl
  ·exact linB_le h n i l hl
  ·rcases List.mem_cons.1 hl with rfl | hl
   ·exact bhT_len _
   ·obtain ⟨s, _, rfl⟩ := List.mem_map.1 hl
    exact stL_len _
 have h2 := nl_len h1
 have h3 := linB_cnt h n i
 have h4 : (linS D n i k).length ≤ (linB D n i).length + 25 := by
  have := st_len h i
  simp only [linS, List.length_append, List.length_cons, List.length_map, List.length_take]
  omega
 have := h.b
 omega
theorem textF_lim {D : FnD} (h : Lim D) (n : Int) : (textF D n).length ≤ 1000000 := linB_lim h n (Nat.le_refl _)
end Go.Proofs.YtglmonlofejcgaaDoor.txt
