/- Whether a function is well made: fnshape.made. -/
import Derived.Test.YtglmonlofejcgaaGreatDoorFn4
set_option linter.unusedVariables false
set_option linter.unusedSectionVars false
set_option maxRecDepth 100000
namespace Go.Proofs.YtglmonlofejcgaaGreatDoor.made
open Go.RowKit Am
theorem Ep : fH (F.body.getD .skip) 1 8 = true := by kernel_rfl
theorem MW {α : Type} (l : List α) (d : α) (p : α -> Bool) {k : Nat} (hk : k < l.length) : (l.take (k + 1)).all p = ((l.take k).all p && p (l.getD k d)) := by
 rw [List.take_succ_eq_append_getElem hk, List.all_append, List.getD_eq_getElem?_getD, List.getElem?_eq_getElem hk]
 simp
theorem ni (b : Bool) : b2i b = 1 ↔ b = true := by cases b <;> decide
theorem fK (b : Bool) : decide (b2i b = 1) = b := by cases b <;> rfl
theorem ZQ (l : List Bool) : ak InI (List.replicate l.length ivB) (l.map b2i) := by
 induction l with
 | nil => trivial
 | cons b l ih => exact ⟨rC b, ih⟩
theorem Vy {b1 b2 : Base} {i j : Nat} (e : b1.rho i = b2.rho j) : ig b1 b2 (isU (.xe [(j, 1)]) (.xe [(i, 1)])) := by
 intro r v hv
 have hv : v = .bool (decide (b1.rho i = 1) || false) := hv
 show v = .bool (decide (b2.rho j = 1) || false)
 rw [hv, e]
def X4 (nL nB : Int) (b : bH) : Bool :=
 (!decide (ah b.pre 0 = 2) || (decide (ah b.pre 1 = 1) || decide (ah b.pre 3 < nL))) && ((!decide (ah b.pre 0 = 4) || (decide (ah b.post 0 < nL) && b.ops.all (rP nL))) &&
 ((decide (ah b.pre 0 = 3) || decide (ah b.pre 0 = 5) || decide (ah b.pre 7 < nB)) && (!decide (ah b.pre 0 = 2) || (decide (ah b.pre 7 = ah b.pre 8) || decide (ah b.pre 8 < nB)))))
def WI (nL nB : Int) (b : bH) : Bool := b.st.all (nR nL) && X4 nL nB b
def okB (b : bH) : Bool := b.st.all (fun st => dJ.val st) && zi b
def l9 (D : FnD) : Bool := head.mG D && (decide (0 < D.bs.length) && (D.bs.all okB && D.bs.all (WI D.ls.length D.bs.length)))
theorem abR (a s e2 e4 e3 e5 a1 al d o t72 t73 t74 : Bool) (h24 : e2 = true -> e4 = false) (x : Bool) (hx : x = ((a && s) && d && o)) :
  ((!e2 || ((a && s) && (a1 || al))) && ((!e4 || x) && ((!(!e2 && !e4) || (a && s)) && ((!(!(e3 || e5)) || t72) && (!e2 || (t74 || t73)))))) = (a && (s && ((!e2 || (a1 || al)) && ((!e4 || (d && o)) && ((e3 || e5 || t72) && (!e2 || (t74 || t73))))))) := by
 subst hx
 cases e2
 ·cases e4 <;> cases a <;> cases s <;> cases d <;> cases o <;> cases e3 <;> cases e5 <;> cases t72 <;> rfl
 ·rw [h24 rfl]
  cases a <;> cases s <;> cases a1 <;> cases al <;> cases e3 <;> cases e5 <;> cases t72 <;> cases t74 <;> cases t73 <;> rfl
section
variable {w : World} {v : Value} {D : FnD} (h : aT w v D)
include h
theorem start {q : At} (hq : Fits D q) (l : List Bool) (i : q.i < D.bs.length) : ((Lf.of (fE ++ List.replicate l.length ivB)).pin 6 1).Holds (aF (aJ D q (l.map b2i))) (fun _ => []) := by
 have := kQ h hq (ZQ l) (m2 := []) (fun _ => [])
 rw [List.append_nil] at this
 exact this.pin (i := 6) (c := 1) (show b2i (decide ((q.i : Int) < D.bs.length)) = 1 from (bY _).2 (by omega))
def DR (D : FnD) (i k : Nat) : Bool := ((D.blk i).st.take k).all (nR D.ls.length)
theorem ai4 {q : At} (r : Bool) : GK.num (aF (aJ D q [b2i r])) = (r && nR D.ls.length (D.stm q.i q.k)) := by
 show ((decide (aF (aJ D q [b2i r]) 77 = 1) && true) && (Ws.ren toS).num (aF (aJ D q [b2i r]))) = _
 rw [aen, show aF (aJ D q [b2i r]) 77 = b2i r from fJ 0, fK, Bool.and_true]
def atS (i k : Nat) : At := ⟨i, k, 0, 0⟩
def mkS (D : FnD) (r : Bool) (i k : Nat) : List Int := [b2i (r && DR D i k)]
theorem inner (r : Bool) {q : At} {m : List Int} (hm : aF m 0 = b2i r) (hi : q.i < D.bs.length) (hB : D.bs.length <= 1000) (hS : (D.blk q.i).st.length <= 1000) :
  (((D.blk q.i).st.all fun st => dJ.val st) = true -> aF m 1 = b2i (r && (D.blk q.i).st.all (nR D.ls.length)) -> ∀ K (ok : aG K (fnB w D q m).rho (fnB w D q m).sig), @aO ((fnB w D q m).aH K ok) Tryz.prog (mD (.exit 2) sNI K) aY) /\
  (((D.blk q.i).st.all fun st => dJ.val st) = false -> ∀ K (ok : aG K (fnB w D q m).rho (fnB w D q m).sig), @aO ((fnB w D q m).aH K ok) Tryz.prog (mD .ret sRI K) aY) := by
 have fit : ∀ k, k <= (D.blk q.i).st.length -> Fits D (atS q.i k) := fun k hk => gU ⟨by show q.i <= 1000; omega, by show k <= 1000; omega, Nat.zero_le _, Nat.zero_le _⟩
 have st := fun k hk => start h (fit k hk) [r && DR D q.i k] hi
 have us : ∀ u ∈ usI, ig (fnB w D q m) (fnB w D (atS q.i 0) (mkS D r q.i 0)) u := fun u hu => by
  simp only [usI, List.mem_cons, List.not_mem_nil, or_false] at hu
  rcases hu with rfl | rfl
  ·exact dN fun r v hv => hv
  ·refine Vy ?_
   show aF (aJ D q m) (77 + 0) = aF (aJ D (atS q.i 0) (mkS D r q.i 0)) (77 + 0)
   rw [fJ, fJ, hm]
   show b2i r = b2i (r && DR D q.i 0)
   unfold DR
   simp
 have rig : ∀ k, k < (D.blk q.i).st.length -> ∀ b, dJ.val (D.stm q.i k) = b -> jG Tryz.prog (dH (Fp b) tbI aX) (fnB w D (atS q.i k) (mkS D r q.i k)) := fun k hk b hb =>
  fG (a1h h ⟨_, Tryz.func57, by kernel_rfl, by kernel_rfl⟩ Qc vm8 (q := atS q.i k) hi hk hb _) (@aV (fnB w D (atS q.i k) (mkS D r q.i k)) _ _ (aU h _ _) (@aV (fnB w D (atS q.i k) (mkS D r q.i k)) _ _ (dL h (q := atS q.i k) hi _) (Dt h (q := atS q.i k) hi hk _))) nK
 have pin1 : ∀ k, k < (D.blk q.i).st.length -> L1.Holds (aF (aJ D (atS q.i k) (mkS D r q.i k))) (fun _ => []) := fun k hk => (st k (by omega)).pin (i := 23) (c := 1) (show b2i (decide ((k : Int) < (D.blk q.i).st.length)) = 1 from (bY _).2 (by omega))
 have step : ∀ k, k < (D.blk q.i).st.length -> dJ.val (D.stm q.i k) = true -> gJ Tryz.prog (fnB w D (atS q.i k) (mkS D r q.i k)) (fnB w D (atS q.i (k + 1)) (mkS D r q.i (k + 1))) aY hdI .normal hdI := fun k hk hok => by
  refine bG jU (rig k hk true hok) (bK (atS q.i k) (atS q.i (k + 1)) rfl _ _) (pin1 k hk) (aQ D _ _) (fun p hp => ?_) (fun u hu => ?_) rfl (bf f aY)
  ·obtain rfl := List.mem_singleton.1 hp
   exact (IE _ _).trans hok
  ·have key : (fnB w D (atS q.i (k + 1)) (mkS D r q.i (k + 1))).rho 77 = 1 ↔ GK.num (fnB w D (atS q.i k) (mkS D r q.i k)).rho = true := by
    show aF (aJ D (atS q.i (k + 1)) (mkS D r q.i (k + 1))) (77 + 0) = 1 ↔ GK.num (aF (aJ D (atS q.i k) (mkS D r q.i k))) = true
    rw [fJ, show E.num (aF (aJ D (atS q.i k) (mkS D r q.i k))) GK = _ from ai4 h (q := atS q.i k) (r && DR D q.i k)]
    show b2i (r && DR D q.i (k + 1)) = 1 ↔ _
    rw [ni]
    unfold DR
    rw [MW _ [] _ hk, <- Bool.and_assoc]
    exact Iff.rfl
   simp only [List.mem_cons, List.not_mem_nil, or_false] at hu
   rcases hu with rfl | rfl | rfl
   ·exact dN fun r v hv => hv
   ·exact CQ key
   ·exact Ew key
 constructor
 ·intro hall hm1 K ok
  have hall := (iC (D.blk q.i).st [] fun st => dJ.val st).2 hall
  refine @cZ _ _ (fun k => fnB w D (atS q.i k) (mkS D r q.i k)) aY _ _ hdI _ _ (fun e => by cases e) (D.blk q.i).st.length (bK q (atS q.i 0) rfl _ _) us (fun k hk => step k hk (hall k hk)) ?_ 8 K ok
  refine bG JU (bg (@aV (fnB w D (atS q.i _) (mkS D r q.i _)) _ _ (aU h _ _) (dL h (q := atS q.i _) hi _))) (bK (atS q.i (D.blk q.i).st.length) q rfl _ _) (L := L3) ?_ (aQ D _ _) (fun p hp => by cases hp) (fun u hu => ?_) rfl (bf f aY)
  ·exact (st _ (Nat.le_refl _)).pin (i := 23) (c := 0) (show b2i (decide (((D.blk q.i).st.length : Int) < (D.blk q.i).st.length)) = 0 by rw [decide_eq_false (by omega)]; rfl)
  ·obtain rfl := List.mem_singleton.1 hu
   refine Vy ?_
   show aF (aJ D (atS q.i (D.blk q.i).st.length) (mkS D r q.i (D.blk q.i).st.length)) (77 + 0) = aF (aJ D q m) (77 + 1)
   rw [fJ, fJ, hm1]
   show b2i (r && DR D q.i (D.blk q.i).st.length) = _
   unfold DR
   rw [List.take_length]
 ·intro hbad K ok
  rcases jl (fun k => dJ.val (D.stm q.i k)) (D.blk q.i).st.length with hall | ⟨N, hN, h0, hn⟩
  ·rw [(iC (D.blk q.i).st [] fun st => dJ.val st).1 hall] at hbad
   cases hbad
  ·refine @cZ _ _ (fun k => fnB w D (atS q.i k) (mkS D r q.i k)) aY _ _ hdI _ _ (fun e => by cases e) N (bK q (atS q.i 0) rfl _ _) us (fun k hk => step k (by omega) (h0 k hk)) ?_ 8 K ok
   exact bG amb (rig N hN false hn) (bK (atS q.i N) q rfl _ _) (pin1 N hN) (aQ D _ _) (fun p hp => by cases hp) (fun u hu => by cases hu) rfl (bf f aY)
def atM (i m : Nat) : At := ⟨i, 0, m, 0⟩
def DV (D : FnD) (r : Bool) (i : Nat) : Bool := r && decide (ah (D.blk i).post 0 < D.ls.length)
def a3t (D : FnD) (i m : Nat) : Bool := ((D.blk i).ops.take m).all (rP D.ls.length)
def mkM (D : FnD) (r : Bool) (i m : Nat) : List Int := [b2i (DV D r i && a3t D i m)]
theorem args (r : Bool) {q : At} {m : List Int} (h78 : aF m 1 = b2i r) (h79 : aF m 2 = b2i ((r && decide (ah (D.blk q.i).post 0 < D.ls.length)) && (D.blk q.i).ops.all (rP D.ls.length))) (hi : q.i < D.bs.length) (hB : D.bs.length <= 1000) (hA : (D.blk q.i).ops.length <= 1000) :
  ∀ K (ok : aG K (fnB w D q m).rho (fnB w D q m).sig), @aO ((fnB w D q m).aH K ok) Tryz.prog (rowA K) iy := by
 intro K ok
 have fit : ∀ k, k <= (D.blk q.i).ops.length -> Fits D (atM q.i k) := fun k hk => gU ⟨by show q.i <= 1000; omega, Nat.zero_le _, by show k <= 1000; omega, Nat.zero_le _⟩
 have st := fun k hk => start h (fit k hk) [DV D r q.i && a3t D q.i k] hi
 have r78 : (fnB w D q m).rho 78 = b2i r := (fJ (D := D) (q := q) (more := m) 1).trans h78
 have r70 : (fnB w D q m).rho 70 = b2i (decide (ah (D.blk q.i).post 0 < D.ls.length)) := rfl
 have r0 : (fnB w D (atM q.i 0) (mkM D r q.i 0)).rho 77 = b2i (DV D r q.i) := by
  refine (fJ (D := D) (q := atM q.i 0) (more := mkM D r q.i 0) 0).trans ?_
  show b2i (DV D r q.i && a3t D q.i 0) = b2i (DV D r q.i)
  simp [a3t]
 have us : ∀ u ∈ usA, ig (fnB w D q m) (fnB w D (atM q.i 0) (mkM D r q.i 0)) u := fun u hu => by
  simp only [usA, List.mem_cons, List.not_mem_nil, or_false] at hu
  rcases hu with rfl | rfl | rfl
  ·exact dN fun r v hv => hv
  ·intro r' v hv
   have hv : @VS (fnB w D q m) r' (bif (decide ((fnB w D q m).rho 78 = 1) && true) then .xe [(70, 1)] else .bool false) v := hv
   rw [r78, fK, Bool.and_true] at hv
   show v = .bool (decide ((fnB w D (atM q.i 0) (mkM D r q.i 0)).rho 77 = 1) || false)
   rw [r0, fK, Bool.or_false]
   cases r with
   | false => exact hv
   | true =>
    have hv : v = .bool (decide ((fnB w D q m).rho 70 = 1) || false) := hv
    rw [hv, r70, fK, Bool.or_false]
    rfl
  ·refine CQ ?_
   show (fnB w D (atM q.i 0) (mkM D r q.i 0)).rho 77 = 1 ↔ ((decide ((fnB w D q m).rho 78 = 1) && true) && (decide ((fnB w D q m).rho 70 = 1) && true)) = true
   rw [r0, r78, r70, fK, fK, ni, Bool.and_true, Bool.and_true]
   exact Iff.rfl
 refine @cZ _ _ (fun k => fnB w D (atM q.i k) (mkM D r q.i k)) iy _ _ hdA _ _ (fun e => by cases e) (D.blk q.i).ops.length (bK q (atM q.i 0) rfl _ _) us (fun k hk => ?_) ?_ 2 K ok
 ·refine bG DC (bg (@aV (fnB w D (atM q.i k) (mkM D r q.i k)) _ _ (aU h _ _) (@aV (fnB w D (atM q.i k) (mkM D r q.i k)) _ _ (dL h (q := atM q.i k) hi _) (IB h (q := atM q.i k) hi hk _)))) (bK (atM q.i k) (atM q.i (k + 1)) rfl _ _) (L := L5) ?_ (aQ D _ _) (fun p hp => by cases hp) (fun u hu => ?_) rfl (bf fO iy)
  ·exact (st k (by omega)).pin (i := 52) (c := 1) (show b2i (decide ((k : Int) < (D.blk q.i).ops.length)) = 1 from (bY _).2 (by omega))
  ·have key : (fnB w D (atM q.i (k + 1)) (mkM D r q.i (k + 1))).rho 77 = 1 ↔ a8X.num (fnB w D (atM q.i k) (mkM D r q.i k)).rho = true := by
    have e1 : (fnB w D (atM q.i (k + 1)) (mkM D r q.i (k + 1))).rho 77 = b2i (DV D r q.i && a3t D q.i (k + 1)) := fJ (D := D) (q := atM q.i (k + 1)) (more := mkM D r q.i (k + 1)) 0
    have e2 : (fnB w D (atM q.i k) (mkM D r q.i k)).rho 77 = b2i (DV D r q.i && a3t D q.i k) := fJ (D := D) (q := atM q.i k) (more := mkM D r q.i k) 0
    have e3 : (fnB w D (atM q.i k) (mkM D r q.i k)).rho 71 = b2i (decide (ah (D.opd q.i k) 2 < D.ls.length)) := rfl
    have e4 : (fnB w D (atM q.i k) (mkM D r q.i k)).rho 53 = ah (D.opd q.i k) 0 := rfl
    show (fnB w D (atM q.i (k + 1)) (mkM D r q.i (k + 1))).rho 77 = 1 ↔ ((decide ((fnB w D (atM q.i k) (mkM D r q.i k)).rho 77 = 1) && true) && ((decide ((fnB w D (atM q.i k) (mkM D r q.i k)).rho 53 = 1) && true) || (decide ((fnB w D (atM q.i k) (mkM D r q.i k)).rho 71 = 1) && true))) = true
    rw [e1, e2, e3, e4, ni, fK, fK, Bool.and_true, Bool.and_true, Bool.and_true]
    show (DV D r q.i && ((D.blk q.i).ops.take (k + 1)).all (rP D.ls.length)) = true ↔ _
    rw [MW _ [] _ hk, <- Bool.and_assoc]
    exact Iff.rfl
   simp only [List.mem_cons, List.not_mem_nil, or_false] at hu
   rcases hu with rfl | rfl | rfl
   ·exact dN fun r v hv => hv
   ·exact CQ key
   ·exact Ew key
 ·refine bG MF (bg (@aV (fnB w D (atM q.i _) (mkM D r q.i _)) _ _ (aU h _ _) (dL h (q := atM q.i _) hi _))) (bK (atM q.i (D.blk q.i).ops.length) q rfl _ _) (L := L6) ?_ (aQ D _ _) (fun p hp => by cases hp) (fun u hu => ?_) rfl (bf fO iy)
  ·exact (st _ (Nat.le_refl _)).pin (i := 52) (c := 0) (show b2i (decide (((D.blk q.i).ops.length : Int) < (D.blk q.i).ops.length)) = 0 by rw [decide_eq_false (by omega)]; rfl)
  ·obtain rfl := List.mem_singleton.1 hu
   refine Vy ?_
   show aF (aJ D (atM q.i (D.blk q.i).ops.length) (mkM D r q.i (D.blk q.i).ops.length)) (77 + 0) = aF (aJ D q m) (77 + 2)
   rw [fJ, fJ, h79]
   show b2i (DV D r q.i && ((D.blk q.i).ops.take (D.blk q.i).ops.length).all (rP D.ls.length)) = _
   rw [List.take_length]
   rfl
def yZ (D : FnD) (i : Nat) : Bool := (D.bs.take i).all (WI D.ls.length D.bs.length)
def y7 (D : FnD) (r : Bool) (i : Nat) : List Bool :=
 let a := r && yZ D i
 let b := a && (D.blk i).st.all (nR D.ls.length)
 [a, b, (b && decide (ah (D.blk i).post 0 < D.ls.length)) && (D.blk i).ops.all (rP D.ls.length)]
theorem ag0 (r : Bool) (i : Nat) (hi : i < D.bs.length) : Y9.num (aF (aJ D (atB i) ((y7 D r i).map b2i))) = (r && yZ D (i + 1)) := by
 have e78 : aF (aJ D (atB i) ((y7 D r i).map b2i)) 78 = b2i ((r && yZ D i) && (D.blk i).st.all (nR D.ls.length)) := fJ (D := D) (q := atB i) 1
 have e79 : aF (aJ D (atB i) ((y7 D r i).map b2i)) 79 = b2i ((((r && yZ D i) && (D.blk i).st.all (nR D.ls.length)) && decide (ah (D.blk i).post 0 < D.ls.length)) && (D.blk i).ops.all (rP D.ls.length)) := fJ (D := D) (q := atB i) 2
 have e8 : aF (aJ D (atB i) ((y7 D r i).map b2i)) 8 = ah (D.blk i).pre 0 := rfl
 have e9 : aF (aJ D (atB i) ((y7 D r i).map b2i)) 9 = ah (D.blk i).pre 1 := rfl
 have e69 : aF (aJ D (atB i) ((y7 D r i).map b2i)) 69 = b2i (decide (ah (D.blk i).pre 3 < D.ls.length)) := rfl
 have e72 : aF (aJ D (atB i) ((y7 D r i).map b2i)) 72 = b2i (decide (ah (D.blk i).pre 7 < D.bs.length)) := rfl
 have e73 : aF (aJ D (atB i) ((y7 D r i).map b2i)) 73 = b2i (decide (ah (D.blk i).pre 8 < D.bs.length)) := rfl
 have e74 : aF (aJ D (atB i) ((y7 D r i).map b2i)) 74 = b2i (decide (ah (D.blk i).pre 7 = ah (D.blk i).pre 8)) := rfl
 unfold yZ
 rw [MW _ b0 _ hi, <- Bool.and_assoc]
 show _ = ((r && yZ D i) && ((D.blk i).st.all (nR D.ls.length) && X4 D.ls.length D.bs.length (D.blk i)))
 unfold X4
 simp only [Y9, ands, imp, isE, E.num, List.all_cons, List.all_nil, Bool.and_true, e78, e79, e8, e9, e69, e72, e73, e74, fK]
 exact abR _ _ _ _ _ _ _ _ _ _ _ _ _ (fun e => by have := of_decide_eq_true e; exact decide_eq_false (by omega)) _ rfl
def mkO (D : FnD) (r : Bool) (i : Nat) : List Int := (y7 D r i).map b2i
theorem outer (r : Bool) {m : List Int} (h77 : ∀ b0 : Base, True) (hB : D.bs.length <= 1000) (hS : ∀ b ∈ D.bs, b.st.length <= 1000 /\ (zi b = true -> b.ops.length <= 1000)) :
  (D.bs.all okB = true -> aF m 1 = b2i (r && D.bs.all (WI D.ls.length D.bs.length)) -> ∀ K (ok : aG K (fnB w D (atB 0) m).rho (fnB w D (atB 0) m).sig), @aO ((fnB w D (atB 0) m).aH K ok) Tryz.prog (zh r (.exit 0) sNO K) fM) /\
  (D.bs.all okB = false -> ∀ K (ok : aG K (fnB w D (atB 0) m).rho (fnB w D (atB 0) m).sig), @aO ((fnB w D (atB 0) m).aH K ok) Tryz.prog (zh r .ret sRO K) fM) := by
 have mem : ∀ i, i < D.bs.length -> D.blk i ∈ D.bs := fun i hi => by
  unfold FnD.blk
  rw [List.getD_eq_getElem?_getD, List.getElem?_eq_getElem hi]
  exact List.getElem_mem hi
 have L7h : ∀ i, i < D.bs.length -> L7.Holds (aF (aJ D (atB i) (mkO D r i))) (fun _ => []) := fun i hi => start h (gG (by omega)) (y7 D r i) hi
 have us : ∀ u ∈ [isU (.xi .i64 4) (.int .i64 0), isU R (.bool r)], ig (fnB w D (atB 0) m) (fnB w D (atB 0) (mkO D r 0)) u := fun u hu => by
  simp only [List.mem_cons, List.not_mem_nil, or_false] at hu
  rcases hu with rfl | rfl
  ·exact dN fun r v hv => hv
  ·intro r' v hv
   have hv : v = .bool r := hv
   have e : (fnB w D (atB 0) (mkO D r 0)).rho 77 = b2i r := by
    refine (fJ (D := D) (q := atB 0) (more := mkO D r 0) 0).trans ?_
    show b2i (r && yZ D 0) = b2i r
    simp [yZ]
   show v = .bool (decide ((fnB w D (atB 0) (mkO D r 0)).rho 77 = 1) || false)
   rw [e, fK, hv, Bool.or_false]
 have tb : ∀ i, i < D.bs.length -> @aZ (fnB w D (atB i) (mkO D r i)) tbO := fun i hi => @aV (fnB w D (atB i) (mkO D r i)) _ _ (aU h _ _) (dL h (q := atB i) hi _)
 have x0 : ∀ i, aF (mkO D r i) 0 = b2i (r && yZ D i) := fun i => rfl
 have x1 : ∀ i, aF (mkO D r i) 1 = b2i ((r && yZ D i) && (D.blk i).st.all (nR D.ls.length)) := fun i => rfl
 have x2 : ∀ i, aF (mkO D r i) 2 = b2i ((((r && yZ D i) && (D.blk i).st.all (nR D.ls.length)) && decide (ah (D.blk i).post 0 < D.ls.length)) && (D.blk i).ops.all (rP D.ls.length)) := fun i => rfl
 have inn := fun i (hi : i < D.bs.length) => inner h (r && yZ D i) (q := atB i) (m := mkO D r i) (x0 i) hi hB (hS _ (mem i hi)).1
 have hfO : fO ≠ f := by decide
 -- rows of a round: statements well, arguments
 have rowsOk : ∀ i, i < D.bs.length -> ((D.blk i).st.all fun st => dJ.val st) = true -> (zi (D.blk i) = true \/ True) -> ∀ b, zi (D.blk i) = b -> (b = true -> (D.blk i).ops.length <= 1000) -> b = true ->
   jG Tryz.prog (dH (ajj b) tbO a0J) (fnB w D (atB i) (mkO D r i)) := fun i hi hs _ b hb hl hbt => by
  refine fG (Rn h ⟨_, Tryz.func72, by kernel_rfl, by kernel_rfl⟩ KH vm8 (q := atB i) hi hb _) (tb i hi) (rows_ok fun K ok p hp => ?_)
  simp only [List.mem_cons, List.not_mem_nil, or_false] at hp
  rcases hp with rfl | rfl
  ·exact ⟨F, Tryz.func33, fun c hc => iF Ep ((inn i hi).1 hs (x1 i) K ok) hc⟩
  ·exact ⟨FO, Tryz.func98, fun c hc => iF RX (args h ((r && yZ D i) && (D.blk i).st.all (nR D.ls.length)) (q := atB i) (m := mkO D r i) (x1 i) (x2 i) hi hB (hl hbt) K ok) hc⟩
 have step : ∀ i, i < D.bs.length -> okB (D.blk i) = true -> gJ Tryz.prog (fnB w D (atB i) (mkO D r i)) (fnB w D (atB (i + 1)) (mkO D r (i + 1))) fM hdO .normal hdO := fun i hi hok => by
  unfold okB at hok
  rw [Bool.and_eq_true] at hok
  have hl := (hS _ (mem i hi)).2
  refine bG Kr (rowsOk i hi hok.1 (.inr trivial) true hok.2 (fun _ => hl hok.2) rfl) (bM _ _ _ _) (L7h i hi) (aQ D _ _) (fun p hp => by cases hp) (fun u hu => ?_) rfl (fun K ok => oP (F := F) (cc := fM) fun p hp e => ?_)
  ·have key : (fnB w D (atB (i + 1)) (mkO D r (i + 1))).rho 77 = 1 ↔ Y9.num (fnB w D (atB i) (mkO D r i)).rho = true := by
    have e1 : (fnB w D (atB (i + 1)) (mkO D r (i + 1))).rho 77 = b2i (r && yZ D (i + 1)) := fJ (D := D) (q := atB (i + 1)) (more := mkO D r (i + 1)) 0
    rw [e1, show Y9.num (fnB w D (atB i) (mkO D r i)).rho = _ from ag0 h r i hi, ni]
   simp only [List.mem_cons, List.not_mem_nil, or_false] at hu
   rcases hu with rfl | rfl | rfl | rfl
   ·exact dN fun r v hv => hv
   ·exact CQ key
   ·exact Ew key
   ·exact Ew key
  ·simp only [List.mem_cons, List.not_mem_nil, or_false] at hp
   rcases hp with rfl | rfl
   ·exact qy Rw ((inn i hi).1 hok.1 (x1 i) K ok)
   ·exact absurd e hfO
 constructor
 ·intro hall hm K ok
  have hall := (iC D.bs b0 okB).2 hall
  refine @cZ _ _ (fun i => fnB w D (atB i) (mkO D r i)) fM _ _ hdO _ _ (fun e => by cases e) D.bs.length (bM _ _ _ _) us (fun k hk => step k hk (hall k hk)) ?_ 5 K ok
  refine bG Nq (bg (aU h _ _)) (bM _ _ _ _) (L := L8) ?_ (aQ D _ _) (fun p hp => by cases hp) (fun u hu => ?_) rfl (bf f fM)
  ·have := kQ h (q := atB D.bs.length) (gG (by omega)) (ZQ [r && yZ D D.bs.length]) (m2 := [aF (mkO D r D.bs.length) 1, aF (mkO D r D.bs.length) 2]) (fun _ => [])
   exact this.pin (i := 6) (c := 0) (show b2i (decide ((D.bs.length : Int) < D.bs.length)) = 0 by rw [decide_eq_false (by omega)]; rfl)
  ·obtain rfl := List.mem_singleton.1 hu
   refine Vy ?_
   show aF (aJ D (atB D.bs.length) (mkO D r D.bs.length)) (77 + 0) = aF (aJ D (atB 0) m) (77 + 1)
   rw [fJ, fJ, hm, x0]
   unfold yZ
   rw [List.take_length]
 ·intro hbad K ok
  rcases jl (fun i => okB (D.blk i)) D.bs.length with hall | ⟨N, hN, h0, hn⟩
  ·rw [(iC D.bs b0 okB).1 hall] at hbad
   cases hbad
  ·refine @cZ _ _ (fun i => fnB w D (atB i) (mkO D r i)) fM _ _ hdO _ _ (fun e => by cases e) N (bM _ _ _ _) us (fun k hk => step k (by omega) (h0 k hk)) ?_ 5 K ok
   have hn : okB (D.blk N) = false := hn
   unfold okB at hn
   cases hs : ((D.blk N).st.all fun st => dJ.val st) with
   | false =>
    refine bG alK (fG iR (tb N hN) (rows_ok (T := fun K => [(f, mD .ret sRI K)]) fun K ok p hp => ?_)) (bM _ _ _ _) (L7h N hN) (aQ D _ _) (fun p hp => by cases hp) (fun u hu => by cases hu) rfl (fun K ok => oP (F := F) (cc := fM) fun p hp e => ?_)
    ·obtain rfl := List.mem_singleton.1 hp
     exact ⟨F, Tryz.func33, fun c hc => iF Ep ((inn N hN).2 hs K ok) hc⟩
    ·obtain rfl := List.mem_singleton.1 hp
     exact qy Rw ((inn N hN).2 hs K ok)
   | true =>
    rw [hs, Bool.true_and] at hn
    refine bG alH (fG (Rn h ⟨_, Tryz.func72, by kernel_rfl, by kernel_rfl⟩ KH vm8 (q := atB N) hN hn _) (tb N hN) (rows_ok (T := fun K => [(f, mD (.exit 2) sNI K)]) fun K ok p hp => ?_)) (bM _ _ _ _) (L7h N hN) (aQ D _ _) (fun p hp => by cases hp) (fun u hu => by cases hu) rfl (fun K ok => oP (F := F) (cc := fM) fun p hp e => ?_)
    ·obtain rfl := List.mem_singleton.1 hp
     exact ⟨F, Tryz.func33, fun c hc => iF Ep ((inn N hN).1 hs (x1 N) K ok) hc⟩
    ·obtain rfl := List.mem_singleton.1 hp
     exact qy Rw ((inn N hN).1 hs (x1 N) K ok)
end
end Go.Proofs.YtglmonlofejcgaaGreatDoor.made
