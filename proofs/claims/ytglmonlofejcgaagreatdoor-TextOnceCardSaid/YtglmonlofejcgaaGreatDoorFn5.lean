/- Whether a function is well made: fnshape.made. -/
import Derived.Test.YtglmonlofejcgaaGreatDoorFn4
set_option maxRecDepth 100000
open List renaming mem_singleton → apu, not_mem_nil → apv, mem_cons → apx, getD_eq_getElem?_getD → apy, getElem?_eq_getElem → apz, take_length → apA
open Bool renaming and_true → apw, and_assoc → apC, or_false → apD
open Nat renaming zero_le → apB
set_option linter.unusedVariables false
set_option linter.unusedSectionVars false
namespace Go.Proofs.YtglmonlofejcgaaGreatDoor
namespace made
open Go.RowKit Am
theorem DR : fM (F.body.getD .skip) 1 8 = true := by kernel_rfl
theorem Na {α : Type} (l : List α) (d : α) (p : α -> Bool) {k : Nat} (hk : k < l.length) : (l.take (k + 1)).all p = ((l.take k).all p && p (l.getD k d)) := by
 rw [List.take_succ_eq_append_getElem hk, List.all_append, apy, apz hk]
 simp
theorem oC (b : Bool) : b2i b = 1 ↔ b = true := by cases b <;> decide
theorem eG (b : Bool) : decide (b2i b = 1) = b := by cases b <;> rfl
theorem a3F (l : List Bool) : ak InI (List.replicate l.length ivB) (l.map b2i) := by
 induction l with
 | nil => trivial
 | cons b l ih => exact ⟨sU b, ih⟩
theorem Wq {b1 b2 : Base} {i j : Nat} (e : b1.rho i = b2.rho j) : iI b1 b2 (isU (.xe [(j, 1)]) (.xe [(i, 1)])) := by
 intro r v hv
 have hv : v = .bool (decide (b1.rho i = 1) || false) := hv
 show v = .bool (decide (b2.rho j = 1) || false)
 rw [hv, e]
def Z8 (nL nB : Int) (b : bK) : Bool :=
 (!decide (ah b.pre 0 = 2) || (decide (ah b.pre 1 = 1) || decide (ah b.pre 3 < nL))) && ((!decide (ah b.pre 0 = 4) || (decide (ah b.post 0 < nL) && b.ops.all (tC nL))) &&
 ((decide (ah b.pre 0 = 3) || decide (ah b.pre 0 = 5) || decide (ah b.pre 7 < nB)) && (!decide (ah b.pre 0 = 2) || (decide (ah b.pre 7 = ah b.pre 8) || decide (ah b.pre 8 < nB)))))
def WO (nL nB : Int) (b : bK) : Bool := b.st.all (oP nL) && Z8 nL nB b
def okB (b : bK) : Bool := b.st.all (fun st => dn.val st) && A8 b
def kV (D : FnD) : Bool := head.mM D && (decide (0 < D.bs.length) && (D.bs.all okB && D.bs.all (WO D.ls.length D.bs.length)))
theorem afn (a s e2 e4 e3 e5 a1 al d o t72 t73 t74 : Bool) (h24 : e2 = true -> e4 = false) (x : Bool) (hx : x = ((a && s) && d && o)) :
  ((!e2 || ((a && s) && (a1 || al))) && ((!e4 || x) && ((!(!e2 && !e4) || (a && s)) && ((!(!(e3 || e5)) || t72) && (!e2 || (t74 || t73)))))) = (a && (s && ((!e2 || (a1 || al)) && ((!e4 || (d && o)) && ((e3 || e5 || t72) && (!e2 || (t74 || t73))))))) := by
 subst hx
 cases e2
 ·cases e4 <;> cases a <;> cases s <;> cases d <;> cases o <;> cases e3 <;> cases e5 <;> cases t72 <;> rfl
 ·rw [h24 rfl]
  cases a <;> cases s <;> cases a1 <;> cases al <;> cases e3 <;> cases e5 <;> cases t72 <;> cases t74 <;> cases t73 <;> rfl
section
variable {w : World} {v : Value} {D : FnD} (h : aV w v D)
include h
theorem start {q : At} (hq : Fits D q) (l : List Bool) (i : q.i < D.bs.length) : ((Lf.of (fJ ++ List.replicate l.length ivB)).pin 6 1).Holds (aF (aK D q (l.map b2i))) (fun _ => []) := by
 have := lG h hq (a3F l) (m2 := []) (fun _ => [])
 rw [List.append_nil] at this
 exact this.pin (i := 6) (c := 1) (show b2i (decide ((q.i : Int) < D.bs.length)) = 1 from (bY _).2 (by omega))
def Fb (D : FnD) (i k : Nat) : Bool := ((D.blk i).st.take k).all (oP D.ls.length)
theorem ajk {q : At} (r : Bool) : Jb.num (aF (aK D q [b2i r])) = (r && oP D.ls.length (D.stm q.i q.k)) := by
 show ((decide (aF (aK D q [b2i r]) 77 = 1) && true) && (Z9.ren toS).num (aF (aK D q [b2i r]))) = _
 rw [agS, show aF (aK D q [b2i r]) 77 = b2i r from fQ 0, eG, apw]
def atS (i k : Nat) : At := ⟨i, k, 0, 0⟩
def mkS (D : FnD) (r : Bool) (i k : Nat) : List Int := [b2i (r && Fb D i k)]
theorem inner (r : Bool) {q : At} {m : List Int} (hm : aF m 0 = b2i r) (hi : q.i < D.bs.length) (hB : D.bs.length <= 1000) (hS : (D.blk q.i).st.length <= 1000) :
  (((D.blk q.i).st.all fun st => dn.val st) = true -> aF m 1 = b2i (r && (D.blk q.i).st.all (oP D.ls.length)) -> ∀ K (ok : aG K (fnB w D q m).rho (fnB w D q m).sig), @aO ((fnB w D q m).aH K ok) Tryz.prog (nK (.exit 2) sNI K) bf) /\
  (((D.blk q.i).st.all fun st => dn.val st) = false -> ∀ K (ok : aG K (fnB w D q m).rho (fnB w D q m).sig), @aO ((fnB w D q m).aH K ok) Tryz.prog (nK .ret sRI K) bf) := by
 have fit : ∀ k, k <= (D.blk q.i).st.length -> Fits D (atS q.i k) := fun k hk => iD ⟨by show q.i <= 1000; omega, by show k <= 1000; omega, apB _, apB _⟩
 have st := fun k hk => start h (fit k hk) [r && Fb D q.i k] hi
 have us : ∀ u ∈ usI, iI (fnB w D q m) (fnB w D (atS q.i 0) (mkS D r q.i 0)) u := fun u hu => by
  simp only [usI, apx, apv, or_false] at hu
  rcases hu with rfl | rfl
  ·exact dP fun r v hv => hv
  ·refine Wq ?_
   show aF (aK D q m) (77 + 0) = aF (aK D (atS q.i 0) (mkS D r q.i 0)) (77 + 0)
   rw [fQ, fQ, hm]
   show b2i r = b2i (r && Fb D q.i 0)
   unfold Fb
   simp
 have rig : ∀ k, k < (D.blk q.i).st.length -> ∀ b, dn.val (D.stm q.i k) = b -> jT Tryz.prog (dH (Gh b) tbI aZ) (fnB w D (atS q.i k) (mkS D r q.i k)) := fun k hk b hb =>
  fK (a4a h ⟨_, Tryz.func57, by kernel_rfl, by kernel_rfl⟩ RX vm8 (q := atS q.i k) hi hk hb _) (@aW (fnB w D (atS q.i k) (mkS D r q.i k)) _ _ (aT h _ _) (@aW (fnB w D (atS q.i k) (mkS D r q.i k)) _ _ (dM h (q := atS q.i k) hi _) (DZ h (q := atS q.i k) hi hk _))) oU
 have pin1 : ∀ k, k < (D.blk q.i).st.length -> L1.Holds (aF (aK D (atS q.i k) (mkS D r q.i k))) (fun _ => []) := fun k hk => (st k (by omega)).pin (i := 23) (c := 1) (show b2i (decide ((k : Int) < (D.blk q.i).st.length)) = 1 from (bY _).2 (by omega))
 have step : ∀ k, k < (D.blk q.i).st.length -> dn.val (D.stm q.i k) = true -> gZ Tryz.prog (fnB w D (atS q.i k) (mkS D r q.i k)) (fnB w D (atS q.i (k + 1)) (mkS D r q.i (k + 1))) bf hdI .normal hdI := fun k hk hok => by
  refine bF kE (rig k hk true hok) (bJ (atS q.i k) (atS q.i (k + 1)) rfl _ _) (pin1 k hk) (aQ D _ _) (fun p hp => ?_) (fun u hu => ?_) rfl (bC f bf)
  ·obtain rfl := apu.1 hp
   exact (JJ _ _).trans hok
  ·have key : (fnB w D (atS q.i (k + 1)) (mkS D r q.i (k + 1))).rho 77 = 1 ↔ Jb.num (fnB w D (atS q.i k) (mkS D r q.i k)).rho = true := by
    show aF (aK D (atS q.i (k + 1)) (mkS D r q.i (k + 1))) (77 + 0) = 1 ↔ Jb.num (aF (aK D (atS q.i k) (mkS D r q.i k))) = true
    rw [fQ, show E.num (aF (aK D (atS q.i k) (mkS D r q.i k))) Jb = _ from ajk h (q := atS q.i k) (r && Fb D q.i k)]
    show b2i (r && Fb D q.i (k + 1)) = 1 ↔ _
    rw [oC]
    unfold Fb
    rw [Na _ [] _ hk, <- apC]
    exact Iff.rfl
   simp only [apx, apv, or_false] at hu
   rcases hu with rfl | rfl | rfl
   ·exact dP fun r v hv => hv
   ·exact EX key
   ·exact EJ key
 constructor
 ·intro hall hm1 K ok
  have hall := (iJ (D.blk q.i).st [] fun st => dn.val st).2 hall
  refine @dh _ _ (fun k => fnB w D (atS q.i k) (mkS D r q.i k)) bf _ _ hdI _ _ (fun e => by cases e) (D.blk q.i).st.length (bJ q (atS q.i 0) rfl _ _) us (fun k hk => step k hk (hall k hk)) ?_ 8 K ok
  refine bF KJ (bD (@aW (fnB w D (atS q.i _) (mkS D r q.i _)) _ _ (aT h _ _) (dM h (q := atS q.i _) hi _))) (bJ (atS q.i (D.blk q.i).st.length) q rfl _ _) (L := L3) ?_ (aQ D _ _) (fun p hp => by cases hp) (fun u hu => ?_) rfl (bC f bf)
  ·exact (st _ (Nat.le_refl _)).pin (i := 23) (c := 0) (show b2i (decide (((D.blk q.i).st.length : Int) < (D.blk q.i).st.length)) = 0 by rw [decide_eq_false (by omega)]; rfl)
  ·obtain rfl := apu.1 hu
   refine Wq ?_
   show aF (aK D (atS q.i (D.blk q.i).st.length) (mkS D r q.i (D.blk q.i).st.length)) (77 + 0) = aF (aK D q m) (77 + 1)
   rw [fQ, fQ, hm1]
   show b2i (r && Fb D q.i (D.blk q.i).st.length) = _
   unfold Fb
   rw [apA]
 ·intro hbad K ok
  rcases jD (fun k => dn.val (D.stm q.i k)) (D.blk q.i).st.length with hall | ⟨N, hN, h0, hn⟩
  ·rw [(iJ (D.blk q.i).st [] fun st => dn.val st).1 hall] at hbad
   cases hbad
  ·refine @dh _ _ (fun k => fnB w D (atS q.i k) (mkS D r q.i k)) bf _ _ hdI _ _ (fun e => by cases e) N (bJ q (atS q.i 0) rfl _ _) us (fun k hk => step k (by omega) (h0 k hk)) ?_ 8 K ok
   exact bF aoH (rig N hN false hn) (bJ (atS q.i N) q rfl _ _) (pin1 N hN) (aQ D _ _) (fun p hp => by cases hp) (fun u hu => by cases hu) rfl (bC f bf)
def atM (i m : Nat) : At := ⟨i, 0, m, 0⟩
def Ee (D : FnD) (r : Bool) (i : Nat) : Bool := r && decide (ah (D.blk i).post 0 < D.ls.length)
def a6N (D : FnD) (i m : Nat) : Bool := ((D.blk i).ops.take m).all (tC D.ls.length)
def mkM (D : FnD) (r : Bool) (i m : Nat) : List Int := [b2i (Ee D r i && a6N D i m)]
theorem args (r : Bool) {q : At} {m : List Int} (h78 : aF m 1 = b2i r) (h79 : aF m 2 = b2i ((r && decide (ah (D.blk q.i).post 0 < D.ls.length)) && (D.blk q.i).ops.all (tC D.ls.length))) (hi : q.i < D.bs.length) (hB : D.bs.length <= 1000) (hA : (D.blk q.i).ops.length <= 1000) :
  ∀ K (ok : aG K (fnB w D q m).rho (fnB w D q m).sig), @aO ((fnB w D q m).aH K ok) Tryz.prog (rowA K) iG := by
 intro K ok
 have fit : ∀ k, k <= (D.blk q.i).ops.length -> Fits D (atM q.i k) := fun k hk => iD ⟨by show q.i <= 1000; omega, apB _, by show k <= 1000; omega, apB _⟩
 have st := fun k hk => start h (fit k hk) [Ee D r q.i && a6N D q.i k] hi
 have r78 : (fnB w D q m).rho 78 = b2i r := (fQ (D := D) (q := q) (more := m) 1).trans h78
 have r70 : (fnB w D q m).rho 70 = b2i (decide (ah (D.blk q.i).post 0 < D.ls.length)) := rfl
 have r0 : (fnB w D (atM q.i 0) (mkM D r q.i 0)).rho 77 = b2i (Ee D r q.i) := by
  refine (fQ (D := D) (q := atM q.i 0) (more := mkM D r q.i 0) 0).trans ?_
  show b2i (Ee D r q.i && a6N D q.i 0) = b2i (Ee D r q.i)
  simp [a6N]
 have us : ∀ u ∈ usA, iI (fnB w D q m) (fnB w D (atM q.i 0) (mkM D r q.i 0)) u := fun u hu => by
  simp only [usA, apx, apv, or_false] at hu
  rcases hu with rfl | rfl | rfl
  ·exact dP fun r v hv => hv
  ·intro r' v hv
   have hv : @VS (fnB w D q m) r' (bif (decide ((fnB w D q m).rho 78 = 1) && true) then .xe [(70, 1)] else .bool false) v := hv
   rw [r78, eG, apw] at hv
   show v = .bool (decide ((fnB w D (atM q.i 0) (mkM D r q.i 0)).rho 77 = 1) || false)
   rw [r0, eG, apD]
   cases r with
   | false => exact hv
   | true =>
    have hv : v = .bool (decide ((fnB w D q m).rho 70 = 1) || false) := hv
    rw [hv, r70, eG, apD]
    rfl
  ·refine EX ?_
   show (fnB w D (atM q.i 0) (mkM D r q.i 0)).rho 77 = 1 ↔ ((decide ((fnB w D q m).rho 78 = 1) && true) && (decide ((fnB w D q m).rho 70 = 1) && true)) = true
   rw [r0, r78, r70, eG, eG, oC, apw, apw]
   exact Iff.rfl
 refine @dh _ _ (fun k => fnB w D (atM q.i k) (mkM D r q.i k)) iG _ _ hdA _ _ (fun e => by cases e) (D.blk q.i).ops.length (bJ q (atM q.i 0) rfl _ _) us (fun k hk => ?_) ?_ 2 K ok
 ·refine bF EL (bD (@aW (fnB w D (atM q.i k) (mkM D r q.i k)) _ _ (aT h _ _) (@aW (fnB w D (atM q.i k) (mkM D r q.i k)) _ _ (dM h (q := atM q.i k) hi _) (Jv h (q := atM q.i k) hi hk _)))) (bJ (atM q.i k) (atM q.i (k + 1)) rfl _ _) (L := L5) ?_ (aQ D _ _) (fun p hp => by cases hp) (fun u hu => ?_) rfl (bC fO iG)
  ·exact (st k (by omega)).pin (i := 52) (c := 1) (show b2i (decide ((k : Int) < (D.blk q.i).ops.length)) = 1 from (bY _).2 (by omega))
  ·have key : (fnB w D (atM q.i (k + 1)) (mkM D r q.i (k + 1))).rho 77 = 1 ↔ abU.num (fnB w D (atM q.i k) (mkM D r q.i k)).rho = true := by
    have e1 : (fnB w D (atM q.i (k + 1)) (mkM D r q.i (k + 1))).rho 77 = b2i (Ee D r q.i && a6N D q.i (k + 1)) := fQ (D := D) (q := atM q.i (k + 1)) (more := mkM D r q.i (k + 1)) 0
    have e2 : (fnB w D (atM q.i k) (mkM D r q.i k)).rho 77 = b2i (Ee D r q.i && a6N D q.i k) := fQ (D := D) (q := atM q.i k) (more := mkM D r q.i k) 0
    have e3 : (fnB w D (atM q.i k) (mkM D r q.i k)).rho 71 = b2i (decide (ah (D.opd q.i k) 2 < D.ls.length)) := rfl
    have e4 : (fnB w D (atM q.i k) (mkM D r q.i k)).rho 53 = ah (D.opd q.i k) 0 := rfl
    show (fnB w D (atM q.i (k + 1)) (mkM D r q.i (k + 1))).rho 77 = 1 ↔ ((decide ((fnB w D (atM q.i k) (mkM D r q.i k)).rho 77 = 1) && true) && ((decide ((fnB w D (atM q.i k) (mkM D r q.i k)).rho 53 = 1) && true) || (decide ((fnB w D (atM q.i k) (mkM D r q.i k)).rho 71 = 1) && true))) = true
    rw [e1, e2, e3, e4, oC, eG, eG, apw, apw, apw]
    show (Ee D r q.i && ((D.blk q.i).ops.take (k + 1)).all (tC D.ls.length)) = true ↔ _
    rw [Na _ [] _ hk, <- apC]
    exact Iff.rfl
   simp only [apx, apv, or_false] at hu
   rcases hu with rfl | rfl | rfl
   ·exact dP fun r v hv => hv
   ·exact EX key
   ·exact EJ key
 ·refine bF N7 (bD (@aW (fnB w D (atM q.i _) (mkM D r q.i _)) _ _ (aT h _ _) (dM h (q := atM q.i _) hi _))) (bJ (atM q.i (D.blk q.i).ops.length) q rfl _ _) (L := L6) ?_ (aQ D _ _) (fun p hp => by cases hp) (fun u hu => ?_) rfl (bC fO iG)
  ·exact (st _ (Nat.le_refl _)).pin (i := 52) (c := 0) (show b2i (decide (((D.blk q.i).ops.length : Int) < (D.blk q.i).ops.length)) = 0 by rw [decide_eq_false (by omega)]; rfl)
  ·obtain rfl := apu.1 hu
   refine Wq ?_
   show aF (aK D (atM q.i (D.blk q.i).ops.length) (mkM D r q.i (D.blk q.i).ops.length)) (77 + 0) = aF (aK D q m) (77 + 2)
   rw [fQ, fQ, h79]
   show b2i (Ee D r q.i && ((D.blk q.i).ops.take (D.blk q.i).ops.length).all (tC D.ls.length)) = _
   rw [apA]
   rfl
def Ac (D : FnD) (i : Nat) : Bool := (D.bs.take i).all (WO D.ls.length D.bs.length)
def zn (D : FnD) (r : Bool) (i : Nat) : List Bool :=
 let a := r && Ac D i
 let b := a && (D.blk i).st.all (oP D.ls.length)
 [a, b, (b && decide (ah (D.blk i).post 0 < D.ls.length)) && (D.blk i).ops.all (tC D.ls.length)]
theorem aj8 (r : Bool) (i : Nat) (hi : i < D.bs.length) : ZQ.num (aF (aK D (atB i) ((zn D r i).map b2i))) = (r && Ac D (i + 1)) := by
 have e78 : aF (aK D (atB i) ((zn D r i).map b2i)) 78 = b2i ((r && Ac D i) && (D.blk i).st.all (oP D.ls.length)) := fQ (D := D) (q := atB i) 1
 have e79 : aF (aK D (atB i) ((zn D r i).map b2i)) 79 = b2i ((((r && Ac D i) && (D.blk i).st.all (oP D.ls.length)) && decide (ah (D.blk i).post 0 < D.ls.length)) && (D.blk i).ops.all (tC D.ls.length)) := fQ (D := D) (q := atB i) 2
 have e8 : aF (aK D (atB i) ((zn D r i).map b2i)) 8 = ah (D.blk i).pre 0 := rfl
 have e9 : aF (aK D (atB i) ((zn D r i).map b2i)) 9 = ah (D.blk i).pre 1 := rfl
 have e69 : aF (aK D (atB i) ((zn D r i).map b2i)) 69 = b2i (decide (ah (D.blk i).pre 3 < D.ls.length)) := rfl
 have e72 : aF (aK D (atB i) ((zn D r i).map b2i)) 72 = b2i (decide (ah (D.blk i).pre 7 < D.bs.length)) := rfl
 have e73 : aF (aK D (atB i) ((zn D r i).map b2i)) 73 = b2i (decide (ah (D.blk i).pre 8 < D.bs.length)) := rfl
 have e74 : aF (aK D (atB i) ((zn D r i).map b2i)) 74 = b2i (decide (ah (D.blk i).pre 7 = ah (D.blk i).pre 8)) := rfl
 unfold Ac
 rw [Na _ b0 _ hi, <- apC]
 show _ = ((r && Ac D i) && ((D.blk i).st.all (oP D.ls.length) && Z8 D.ls.length D.bs.length (D.blk i)))
 unfold Z8
 simp only [ZQ, ands, imp, isE, E.num, List.all_cons, List.all_nil, apw, e78, e79, e8, e9, e69, e72, e73, e74, eG]
 exact afn _ _ _ _ _ _ _ _ _ _ _ _ _ (fun e => by have := of_decide_eq_true e; exact decide_eq_false (by omega)) _ rfl
def mkO (D : FnD) (r : Bool) (i : Nat) : List Int := (zn D r i).map b2i
theorem outer (r : Bool) {m : List Int} (h77 : ∀ b0 : Base, True) (hB : D.bs.length <= 1000) (hS : ∀ b ∈ D.bs, b.st.length <= 1000 /\ (A8 b = true -> b.ops.length <= 1000)) :
  (D.bs.all okB = true -> aF m 1 = b2i (r && D.bs.all (WO D.ls.length D.bs.length)) -> ∀ K (ok : aG K (fnB w D (atB 0) m).rho (fnB w D (atB 0) m).sig), @aO ((fnB w D (atB 0) m).aH K ok) Tryz.prog (zZ r (.exit 0) sNO K) fV) /\
  (D.bs.all okB = false -> ∀ K (ok : aG K (fnB w D (atB 0) m).rho (fnB w D (atB 0) m).sig), @aO ((fnB w D (atB 0) m).aH K ok) Tryz.prog (zZ r .ret sRO K) fV) := by
 have mem : ∀ i, i < D.bs.length -> D.blk i ∈ D.bs := fun i hi => by
  unfold FnD.blk
  rw [apy, apz hi]
  exact List.getElem_mem hi
 have L7h : ∀ i, i < D.bs.length -> L7.Holds (aF (aK D (atB i) (mkO D r i))) (fun _ => []) := fun i hi => start h (gX (by omega)) (zn D r i) hi
 have us : ∀ u ∈ [isU (.xi .i64 4) (.int .i64 0), isU R (.bool r)], iI (fnB w D (atB 0) m) (fnB w D (atB 0) (mkO D r 0)) u := fun u hu => by
  simp only [apx, apv, or_false] at hu
  rcases hu with rfl | rfl
  ·exact dP fun r v hv => hv
  ·intro r' v hv
   have hv : v = .bool r := hv
   have e : (fnB w D (atB 0) (mkO D r 0)).rho 77 = b2i r := by
    refine (fQ (D := D) (q := atB 0) (more := mkO D r 0) 0).trans ?_
    show b2i (r && Ac D 0) = b2i r
    simp [Ac]
   show v = .bool (decide ((fnB w D (atB 0) (mkO D r 0)).rho 77 = 1) || false)
   rw [e, eG, hv, apD]
 have tb : ∀ i, i < D.bs.length -> @bg (fnB w D (atB i) (mkO D r i)) tbO := fun i hi => @aW (fnB w D (atB i) (mkO D r i)) _ _ (aT h _ _) (dM h (q := atB i) hi _)
 have x0 : ∀ i, aF (mkO D r i) 0 = b2i (r && Ac D i) := fun i => rfl
 have x1 : ∀ i, aF (mkO D r i) 1 = b2i ((r && Ac D i) && (D.blk i).st.all (oP D.ls.length)) := fun i => rfl
 have x2 : ∀ i, aF (mkO D r i) 2 = b2i ((((r && Ac D i) && (D.blk i).st.all (oP D.ls.length)) && decide (ah (D.blk i).post 0 < D.ls.length)) && (D.blk i).ops.all (tC D.ls.length)) := fun i => rfl
 have inn := fun i (hi : i < D.bs.length) => inner h (r && Ac D i) (q := atB i) (m := mkO D r i) (x0 i) hi hB (hS _ (mem i hi)).1
 have hfO : fO ≠ f := by decide
 -- rows of a round: statements well, arguments
 have rowsOk : ∀ i, i < D.bs.length -> ((D.blk i).st.all fun st => dn.val st) = true -> (A8 (D.blk i) = true \/ True) -> ∀ b, A8 (D.blk i) = b -> (b = true -> (D.blk i).ops.length <= 1000) -> b = true ->
   jT Tryz.prog (dH (alX b) tbO a2H) (fnB w D (atB i) (mkO D r i)) := fun i hi hs _ b hb hl hbt => by
  refine fK (VF h ⟨_, Tryz.func72, by kernel_rfl, by kernel_rfl⟩ Nh vm8 (q := atB i) hi hb _) (tb i hi) (rows_ok fun K ok p hp => ?_)
  simp only [apx, apv, or_false] at hp
  rcases hp with rfl | rfl
  ·exact ⟨F, Tryz.func33, fun c hc => iM DR ((inn i hi).1 hs (x1 i) K ok) hc⟩
  ·exact ⟨FO, Tryz.func98, fun c hc => iM Va (args h ((r && Ac D i) && (D.blk i).st.all (oP D.ls.length)) (q := atB i) (m := mkO D r i) (x1 i) (x2 i) hi hB (hl hbt) K ok) hc⟩
 have step : ∀ i, i < D.bs.length -> okB (D.blk i) = true -> gZ Tryz.prog (fnB w D (atB i) (mkO D r i)) (fnB w D (atB (i + 1)) (mkO D r (i + 1))) fV hdO .normal hdO := fun i hi hok => by
  unfold okB at hok
  rw [Bool.and_eq_true] at hok
  have hl := (hS _ (mem i hi)).2
  refine bF Ns (rowsOk i hi hok.1 (.inr trivial) true hok.2 (fun _ => hl hok.2) rfl) (bQ _ _ _ _) (L7h i hi) (aQ D _ _) (fun p hp => by cases hp) (fun u hu => ?_) rfl (fun K ok => qo (F := F) (cc := fV) fun p hp e => ?_)
  ·have key : (fnB w D (atB (i + 1)) (mkO D r (i + 1))).rho 77 = 1 ↔ ZQ.num (fnB w D (atB i) (mkO D r i)).rho = true := by
    have e1 : (fnB w D (atB (i + 1)) (mkO D r (i + 1))).rho 77 = b2i (r && Ac D (i + 1)) := fQ (D := D) (q := atB (i + 1)) (more := mkO D r (i + 1)) 0
    rw [e1, show ZQ.num (fnB w D (atB i) (mkO D r i)).rho = _ from aj8 h r i hi, oC]
   simp only [apx, apv, or_false] at hu
   rcases hu with rfl | rfl | rfl | rfl
   ·exact dP fun r v hv => hv
   ·exact EX key
   ·exact EJ key
   ·exact EJ key
  ·simp only [apx, apv, or_false] at hp
   rcases hp with rfl | rfl
   ·exact qB VI ((inn i hi).1 hok.1 (x1 i) K ok)
   ·exact absurd e hfO
 constructor
 ·intro hall hm K ok
  have hall := (iJ D.bs b0 okB).2 hall
  refine @dh _ _ (fun i => fnB w D (atB i) (mkO D r i)) fV _ _ hdO _ _ (fun e => by cases e) D.bs.length (bQ _ _ _ _) us (fun k hk => step k hk (hall k hk)) ?_ 5 K ok
  refine bF KR (bD (aT h _ _)) (bQ _ _ _ _) (L := L8) ?_ (aQ D _ _) (fun p hp => by cases hp) (fun u hu => ?_) rfl (bC f fV)
  ·have := lG h (q := atB D.bs.length) (gX (by omega)) (a3F [r && Ac D D.bs.length]) (m2 := [aF (mkO D r D.bs.length) 1, aF (mkO D r D.bs.length) 2]) (fun _ => [])
   exact this.pin (i := 6) (c := 0) (show b2i (decide ((D.bs.length : Int) < D.bs.length)) = 0 by rw [decide_eq_false (by omega)]; rfl)
  ·obtain rfl := apu.1 hu
   refine Wq ?_
   show aF (aK D (atB D.bs.length) (mkO D r D.bs.length)) (77 + 0) = aF (aK D (atB 0) m) (77 + 1)
   rw [fQ, fQ, hm, x0]
   unfold Ac
   rw [apA]
 ·intro hbad K ok
  rcases jD (fun i => okB (D.blk i)) D.bs.length with hall | ⟨N, hN, h0, hn⟩
  ·rw [(iJ D.bs b0 okB).1 hall] at hbad
   cases hbad
  ·refine @dh _ _ (fun i => fnB w D (atB i) (mkO D r i)) fV _ _ hdO _ _ (fun e => by cases e) N (bQ _ _ _ _) us (fun k hk => step k (by omega) (h0 k hk)) ?_ 5 K ok
   have hn : okB (D.blk N) = false := hn
   unfold okB at hn
   cases hs : ((D.blk N).st.all fun st => dn.val st) with
   | false =>
    refine bF anF (fK je (tb N hN) (rows_ok (T := fun K => [(f, nK .ret sRI K)]) fun K ok p hp => ?_)) (bQ _ _ _ _) (L7h N hN) (aQ D _ _) (fun p hp => by cases hp) (fun u hu => by cases hu) rfl (fun K ok => qo (F := F) (cc := fV) fun p hp e => ?_)
    ·obtain rfl := apu.1 hp
     exact ⟨F, Tryz.func33, fun c hc => iM DR ((inn N hN).2 hs K ok) hc⟩
    ·obtain rfl := apu.1 hp
     exact qB VI ((inn N hN).2 hs K ok)
   | true =>
    rw [hs, Bool.true_and] at hn
    refine bF anB (fK (VF h ⟨_, Tryz.func72, by kernel_rfl, by kernel_rfl⟩ Nh vm8 (q := atB N) hN hn _) (tb N hN) (rows_ok (T := fun K => [(f, nK (.exit 2) sNI K)]) fun K ok p hp => ?_)) (bQ _ _ _ _) (L7h N hN) (aQ D _ _) (fun p hp => by cases hp) (fun u hu => by cases hu) rfl (fun K ok => qo (F := F) (cc := fV) fun p hp e => ?_)
    ·obtain rfl := apu.1 hp
     exact ⟨F, Tryz.func33, fun c hc => iM DR ((inn N hN).1 hs (x1 N) K ok) hc⟩
    ·obtain rfl := apu.1 hp
     exact qB VI ((inn N hN).1 hs (x1 N) K ok)
end
end made
end Go.Proofs.YtglmonlofejcgaaGreatDoor
