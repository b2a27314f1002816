/- The reference's Two tells the two-phase locals. The reference's once, as the machine runs it. -/
import Derived.Test.YtglmonlofejcgaaGreatDoorFn20
set_option linter.unusedVariables false
set_option linter.unusedSectionVars false
set_option maxRecDepth 100000
namespace Go.Proofs.YtglmonlofejcgaaGreatDoor.twoR
open Go.RowKit Am
noncomputable def f : FuncId := 43
noncomputable def F : Func := Tryz.f43
noncomputable def fM : Code := dS F 0
noncomputable def aY : Code := dS F 1
noncomputable def keep : List (Nat × S) := [(1, .ptr 0 0), (2, .ptr 1 0), (3, .ptr 2 0)]
def ahd : List S := List.replicate 16 (.bool false)
def hp (n : Nat) : Hp := [(2, ⟨jW n, true⟩), (1, ⟨ahd, true⟩), (0, ⟨bQ, true⟩)]
noncomputable def wQ : List (Nat × S) := keep ++ [(4, .xi .i64 4), (5, .rv 3)]
noncomputable def hdO : St := ⟨iM F.ntmps (keep ++ [(4, .xi .i64 4)]), ⟨hp 0, 3⟩⟩
noncomputable def hdI : St := ⟨iM F.ntmps (wQ ++ [(6, .xi .i64 21)]), ⟨hp 0, 3⟩⟩
noncomputable def sNI : St := ⟨iM F.ntmps wQ, ⟨hp 1, 3⟩⟩
noncomputable def sNO : St := ⟨iM F.ntmps keep, ⟨hp 0, 3⟩⟩
def amu : HT := .by 24 1 .leaf (.by 24 2 (.by 28 4 .leaf (.by 28 5 (.by 30 3 .leaf (.by 30 4 .leaf .leaf)) .leaf)) .leaf)
def usI : List Upd := isU (.xi .i64 21) (.xi .i64 22) :: Yg 0 0 25 (twos.yA twos.I5)
noncomputable def L1 : Lf := twos.kX (((Lf.of (fE ++ [])).pin 6 1).pin 23 1) 25
noncomputable def L3 : Lf := ((Lf.of (fE ++ [])).pin 6 1).pin 23 0
noncomputable def tbI : Tabs := bW.app (iG.app a6p)
theorem jU : aI (dQ (dH gZ tbI aX) f eu [] usI ⟨21, 0, 5⟩ aY hdI .normal hdI) amu L1 = true := by kernel_rfl
theorem JU : aI (dQ (dH gZ (bW.app iG) aX) f eu [] (kU 1 0) ⟨21, 0, 5⟩ aY hdI (.exit 2) sNI) .leaf L3 = true := by kernel_rfl
noncomputable def mD (K : Know) : Loops := iP 8 ⟨21, 0, 5⟩ (@thU K (isU (.xi .i64 21) (.int .i64 0) :: kU 0 0)) hdI (.exit 2) sNI
noncomputable def LO : Lf := (Lf.of (fE ++ [])).pin 6 1
noncomputable def LO0 : Lf := (Lf.of (fE ++ [])).pin 6 0
theorem Kr : aI (dQ (dH gZ (bW.app iG) fun K => dP [(f, mD K)]) f eu [] (isU (.xi .i64 4) (.xi .i64 5) :: kU 0 1) ⟨4, 0, 3⟩ fM hdO .normal hdO) .leaf LO = true := by kernel_rfl
theorem Nq : aI (dQ (dH gZ bW aX) f eu [] (kU 0 0) ⟨4, 0, 3⟩ fM hdO (.exit 0) sNO) .leaf LO0 = true := by kernel_rfl
noncomputable def Oi (K : Know) : Loops := iP 4 ⟨4, 0, 3⟩ (@thU K (isU (.xi .i64 4) (.int .i64 0) :: DI 0)) hdO (.exit 0) sNO
noncomputable def LF : Lf := Lf.of (fE ++ [])
theorem pG : aI (kG (dH gZ bW fun K => dP [(f, Oi K)]) f eu [] [] (fun _ => .a (.g (jW 0))) [.g bQ]) .leaf LF = true := by kernel_rfl
theorem UU : fH (F.body.getD .skip) 0 4 = true := by kernel_rfl
theorem Rw : fH fM 0 8 = true := by kernel_rfl
theorem Ep : fH (F.body.getD .skip) 1 8 = true := by kernel_rfl
def I (D : FnD) (i k j : Nat) : Bool := (twos.ctK D (twos.Ct.at D i) i k).i j
def mI (D : FnD) (i k : Nat) : List Int := bU [fun j => b2i (I D i k j)] ++ []
def mO (D : FnD) (i : Nat) : List Int := bU [fun j => b2i ((twos.Ct.at D i).i j), fun j => b2i ((twos.Ct.at D (i + 1)).i j)] ++ []
def mF (D : FnD) : List Int := bU [fun j => b2i ((twos.Ct.fn D).i j)] ++ []
section
variable {w : World} {v : Value} {D : FnD} (h : aT w v D)
include h
theorem inner {i : Nat} (hi : i < D.bs.length) (hB : D.bs.length <= 1000) (hS : (D.blk i).st.length <= 1000) (hok : ((D.blk i).st.all fun st => dJ.val st) = true) : ∀ K (ok : aG K (fnB w D (atB i) (mO D i)).rho (fnB w D (atB i) (mO D i)).sig), @aO ((fnB w D (atB i) (mO D i)).aH K ok) Tryz.prog (mD K) aY := by
 intro K ok
 have fit : ∀ k, k <= (D.blk i).st.length -> Fits D (made.atS i k) := fun k hk => gU ⟨by show i <= 1000; omega, by show k <= 1000; omega, Nat.zero_le _, Nat.zero_le _⟩
 have okk := (iC (D.blk i).st [] fun st => dJ.val st).2 hok
 have r0 : ∀ k j, j < 16 -> (fnB w D (made.atS i k) (mI D i k)).rho (nm 0 j) = b2i (I D i k j) := fun k j hj => gI (D := D) (q := made.atS i k) (fs := [fun j => b2i (I D i k j)]) (tail := []) (b := 0) (f := fun j => b2i (I D i k j)) rfl hj
 have o0 : ∀ j, j < 16 -> (fnB w D (atB i) (mO D i)).rho (nm 0 j) = b2i ((twos.Ct.at D i).i j) := fun j hj => gI (D := D) (q := atB i) (fs := [fun j => b2i ((twos.Ct.at D i).i j), fun j => b2i ((twos.Ct.at D (i + 1)).i j)]) (tail := []) (b := 0) (f := fun j => b2i ((twos.Ct.at D i).i j)) rfl hj
 have o1 : ∀ j, j < 16 -> (fnB w D (atB i) (mO D i)).rho (nm 1 j) = b2i ((twos.Ct.at D (i + 1)).i j) := fun j hj => gI (D := D) (q := atB i) (fs := [fun j => b2i ((twos.Ct.at D i).i j), fun j => b2i ((twos.Ct.at D (i + 1)).i j)]) (tail := []) (b := 1) (f := fun j => b2i ((twos.Ct.at D (i + 1)).i j)) rfl hj
 refine @cZ _ _ (fun k => fnB w D (made.atS i k) (mI D i k)) aY _ _ hdI _ _ (fun e => by cases e) (D.blk i).st.length (bK (atB i) (made.atS i 0) rfl _ _) (fun u hu => ?_) (fun k hk => ?_) ?_ 8 K ok
 ·rcases List.mem_cons.1 hu with rfl | hu
  ·exact dN fun r v hv => hv
  exact iK (fun j hj => (o0 j hj).trans ((r0 0 j hj).trans (by show b2i ((twos.Ct.at D i).i j || false) = _; rw [Bool.or_false])).symm) u hu
 ·obtain ⟨_, _, _, si⟩ := twos.Tv (C := twos.Ct.at D i) hk
  have rg := Ee (BM h hi hk).1 (okk k hk) (c := 1) (by decide)
  refine bG jU (bg (@aV (fnB w D (made.atS i k) (mI D i k)) _ _ (aU h _ _) (@aV (fnB w D (made.atS i k) (mI D i k)) _ _ (dL h (q := made.atS i k) hi _) (Dt h (q := made.atS i k) hi hk _)))) (bK (made.atS i k) (made.atS i (k + 1)) rfl _ _) (L := L1) ?_ (aQ D _ _) (fun p hp => by cases hp) (fun u hu => ?_) rfl (bf f aY)
  ·have hb := ((twos.eH h (made.atS i k) (fit k (by omega)) (mI D i k)).pin (i := 6) (c := 1) (show b2i (decide ((i : Int) < D.bs.length)) = 1 from (bY _).2 (by omega))).pin (i := 23) (c := 1) (show b2i (decide ((k : Int) < (D.blk i).st.length)) = 1 from (bY _).2 (by omega))
   exact (hb.lo (i := 25) (c := 0) (show 0 <= ah (D.stm i k) 1 from rg.1)).hi (i := 25) (c := 15) (show ah (D.stm i k) 1 <= 15 from rg.2)
  ·rcases List.mem_cons.1 hu with rfl | hu
   ·exact dN fun r v hv => hv
   refine PY (fun j hj => ?_) u hu
   have e25 : (fnB w D (made.atS i k) (mI D i k)).rho 25 = ah (D.stm i k) 1 := rfl
   rw [show (twos.yA twos.I5).num (fnB w D (made.atS i k) (mI D i k)).rho = twos.I5.num (ah (D.stm i k)) from yK (made.atS i k) _ rfl, e25, r0 (k + 1) j hj, r0 k j hj]
   unfold I
   rw [si j, made.ni, made.ni]
   unfold twos.isS twos.VN
   rw [Bool.or_eq_true, Bool.and_eq_true, decide_eq_true_iff]
   exact Or.comm
 ·refine bG JU (bg (@aV (fnB w D (made.atS i _) (mI D i _)) _ _ (aU h _ _) (dL h (q := made.atS i _) hi _))) (bK (made.atS i (D.blk i).st.length) (atB i) rfl _ _) (L := L3) ?_ (aQ D _ _) (fun p hp => by cases hp) (fun u hu => ?_) rfl (bf f aY)
  ·exact ((twos.eH h _ (fit _ (Nat.le_refl _)) _).pin (i := 6) (c := 1) (show b2i (decide ((i : Int) < D.bs.length)) = 1 from (bY _).2 (by omega))).pin (i := 23) (c := 0) (show b2i (decide (((D.blk i).st.length : Int) < (D.blk i).st.length)) = 0 by rw [decide_eq_false (by omega)]; rfl)
  ·refine iK (fun j hj => (r0 _ j hj).trans (Eq.trans ?_ (o1 j hj).symm)) u hu
   have e : twos.ctK D (twos.Ct.at D i) i (D.blk i).st.length = (twos.Ct.at D i).stm (D.blk i).st := by unfold twos.ctK; rw [List.take_length]
   unfold I
   rw [e, twos.Ie hi]
   exact congrArg b2i (twos.TK h (D.blk i) ((twos.Ct.at D i).stm (D.blk i).st) j).2.2.2.symm
theorem outer (hs : twos.Sm D) (hok : ∀ b ∈ D.bs, made.okB b = true) : ∀ K (ok : aG K (fnB w D (atB 0) (mF D)).rho (fnB w D (atB 0) (mF D)).sig), @aO ((fnB w D (atB 0) (mF D)).aH K ok) Tryz.prog (Oi K) fM := by
 intro K ok
 have hn := hs.b
 have okb : ∀ i, i < D.bs.length -> ((D.blk i).st.all fun st => dJ.val st) = true := fun i hi => by
  have := hok _ (twos.kW hi)
  unfold made.okB at this
  rw [Bool.and_eq_true] at this
  exact this.1
 have o0 : ∀ i j, j < 16 -> (fnB w D (atB i) (mO D i)).rho (nm 0 j) = b2i ((twos.Ct.at D i).i j) := fun i j hj => gI (D := D) (q := atB i) (fs := [fun j => b2i ((twos.Ct.at D i).i j), fun j => b2i ((twos.Ct.at D (i + 1)).i j)]) (tail := []) (b := 0) (f := fun j => b2i ((twos.Ct.at D i).i j)) rfl hj
 have o1 : ∀ i j, j < 16 -> (fnB w D (atB i) (mO D i)).rho (nm 1 j) = b2i ((twos.Ct.at D (i + 1)).i j) := fun i j hj => gI (D := D) (q := atB i) (fs := [fun j => b2i ((twos.Ct.at D i).i j), fun j => b2i ((twos.Ct.at D (i + 1)).i j)]) (tail := []) (b := 1) (f := fun j => b2i ((twos.Ct.at D (i + 1)).i j)) rfl hj
 have rI : ∀ i (hi : i < D.bs.length) K (ok : aG K (fnB w D (atB i) (mO D i)).rho (fnB w D (atB i) (mO D i)).sig), @aO ((fnB w D (atB i) (mO D i)).aH K ok) Tryz.prog (mD K) aY := fun i hi =>
  inner h hi (by omega) (by have := (hs.s _ (twos.kW hi)).1; omega) (okb i hi)
 refine @cZ _ _ (fun i => fnB w D (atB i) (mO D i)) fM _ _ hdO _ _ (fun e => by cases e) D.bs.length (bM _ _ _ _) (fun u hu => ?_) (fun i hi => ?_) ?_ 4 K ok
 ·rcases List.mem_cons.1 hu with rfl | hu
  ·exact dN fun r v hv => hv
  exact Hq (fun j hj => o0 0 j hj) u hu
 ·refine bG Kr (fG iR (@aV (fnB w D (atB i) (mO D i)) _ _ (aU h _ _) (dL h (q := atB i) hi _)) (rows_ok (T := fun K => [(f, mD K)]) fun K ok p hp => ?_)) (bM _ _ _ _) (L := LO) ?_ (aQ D _ _) (fun p hp => by cases hp) (fun u hu => ?_) rfl (fun K ok => oP (F := F) (cc := fM) fun p hp e => ?_)
  ·obtain rfl := List.mem_singleton.1 hp
   exact ⟨F, Tryz.func43, fun c hc => iF Ep (rI i hi K ok) hc⟩
  ·exact (twos.eH h (atB i) (gG (by omega)) (mO D i)).pin (i := 6) (c := 1) (show b2i (decide ((i : Int) < D.bs.length)) = 1 from (bY _).2 (by omega))
  ·rcases List.mem_cons.1 hu with rfl | hu
   ·exact dN fun r v hv => hv
   exact iK (fun j hj => (o1 i j hj).trans (o0 (i + 1) j hj).symm) u hu
  ·obtain rfl := List.mem_singleton.1 hp
   exact qy Rw (rI i hi K ok)
 ·refine bG Nq (bg (aU h _ _)) (bM _ _ _ _) (L := LO0) ?_ (aQ D _ _) (fun p hp => by cases hp) (fun u hu => ?_) rfl (bf f fM)
  ·exact (twos.eH h (atB D.bs.length) (gG (by omega)) _).pin (i := 6) (c := 0) (show b2i (decide ((D.bs.length : Int) < D.bs.length)) = 0 by rw [decide_eq_false (by omega)]; rfl)
  ·have e : twos.Ct.at D D.bs.length = twos.Ct.fn D := by unfold twos.Ct.at twos.Ct.fn; rw [List.take_length]
   exact iK (fun j hj => (o0 _ j hj).trans (by
    rw [e]
    exact (gI (D := D) (q := atB 0) (fs := [fun j => b2i ((twos.Ct.fn D).i j)]) (tail := []) (b := 0) (f := fun j => b2i ((twos.Ct.fn D).i j)) rfl hj).symm)) u hu
theorem ahn (hs : twos.Sm D) (hok : ∀ b ∈ D.bs, made.okB b = true) : bF f [v] w (twos.isV D) := by
 refine jw h pG (fG iR (aU h (atB 0) (mF D)) (rows_ok (T := fun K => [(f, Oi K)]) fun K ok p hp => ?_)) (twos.eH h (atB 0) (gG (by omega)) _) (aQ D _ _) (fun p hp => by cases hp) (fun r x hx => ?_)
 ·obtain rfl := List.mem_singleton.1 hp
  exact ⟨F, Tryz.func43, fun c hc => iF UU (outer h hs hok K ok) hc⟩
 ·obtain ⟨us, rfl, hus⟩ := hx
  unfold twos.isV
  congr 2
  refine List.ext_getElem? fun j => ?_
  by_cases hj : j < 16
  ·have hb : nth (jW 0) j = some (.xe [(nm 0 j, 1)]) := by
    rw [aK]
    unfold jW
    rw [List.getElem?_map, List.getElem?_range hj]
    rfl
   obtain ⟨u, hu, hv⟩ := ak.nth hus hb
   rw [hu, List.getElem?_map, List.getElem?_range hj]
   have hv : u = .bool (decide (aF (aJ D (atB 0) (mF D)) (nm 0 j) = 1) || false) := hv
   rw [hv, show aF (aJ D (atB 0) (mF D)) (nm 0 j) = b2i ((twos.Ct.fn D).i j) from gI (D := D) (q := atB 0) (fs := [fun j => b2i ((twos.Ct.fn D).i j)]) (tail := []) (b := 0) (f := fun j => b2i ((twos.Ct.fn D).i j)) rfl hj, made.fK, Bool.or_false]
   rfl
  ·have hl : us.length = 16 := by have := hus.len; simp [jW] at this; omega
   rw [List.getElem?_eq_none (by omega), List.getElem?_eq_none (by simp; omega)]
end
end Go.Proofs.YtglmonlofejcgaaGreatDoor.twoR
namespace Go.Proofs.YtglmonlofejcgaaGreatDoor.onceR
open Go.RowKit Am
noncomputable def f : FuncId := 44
noncomputable def F : Func := Tryz.f44
noncomputable def fP : FuncId := 80
noncomputable def FP : Func := Tryz.f80
noncomputable def fM : Code := dS F 0
noncomputable def aY : Code := dS F 1
noncomputable def iy : Code := dS FP 0
def xi (n : Nat) : S := .xi .i64 n
def lit (t : Nat) : S := .int .i64 t
def hp : Hp := [(0, ⟨bQ, true⟩)]
noncomputable def keep (t : Nat) : List (Nat × S) := [(1, lit t), (2, .ptr 0 0), (4, .bool false)]
noncomputable def cts (a b c : Nat) : List (Nat × S) := [(5, xi a), (6, xi b), (7, xi c)]
noncomputable def wQ (t : Nat) : List (Nat × S) := keep t ++ [(8, xi 4), (9, .rv 3)]
noncomputable def hdO (t : Nat) : St := ⟨iM F.ntmps (keep t ++ (cts 93 94 95 ++ [(8, xi 4)])), ⟨hp, 1⟩⟩
noncomputable def sNO (t : Nat) : St := ⟨iM F.ntmps (keep t ++ cts 93 94 95), ⟨hp, 1⟩⟩
noncomputable def hdI (t : Nat) : St := ⟨iM F.ntmps (wQ t ++ (cts 93 94 95 ++ [(10, xi 21)])), ⟨hp, 1⟩⟩
noncomputable def sNI (t : Nat) : St := ⟨iM F.ntmps (wQ t ++ cts 96 97 98), ⟨hp, 1⟩⟩
noncomputable def hdA (t : Nat) : St := ⟨iM FP.ntmps [(0, .rv 4), (1, lit t), (4, .int .i64 0), (5, xi 77), (6, xi 50)], ⟨[], 0⟩⟩
noncomputable def sNA (t : Nat) : St := ⟨iM FP.ntmps [(5, xi 101)], ⟨[], 0⟩⟩
def e1 (i : Nat) (c : Int) (t : HT) : HT := .by i c .leaf (.by i (c + 1) t .leaf)
def akV (t : Nat) : E := ands [twos.yA twos.I5, isE 25 t, isE 26 0, isE 27 0, .not (isE 41 t)]
def alR (t : Nat) : E := ands [twos.yA twos.KA, isE 33 t]
def pick (y : Nat) (es : List E) (a b : Nat) : Upd := ⟨xi y, es, fun bs => bif bs.headD false then xi a else xi b⟩
def usI (t : Nat) : List Upd := [isU (xi 21) (xi 22), pick 93 [akV t] 97 93, pick 94 [alR t] 98 94, isU (xi 95) (xi 96)]
def a8u (t : Nat) : HT := e1 30 3 (e1 25 t (e1 26 0 (e1 27 0 (e1 41 t .leaf))))
def ajs (t : Nat) : HT := e1 31 3 (e1 32 0 (e1 33 t (e1 34 0 (e1 35 0 .leaf))))
def stT (t : Nat) : HT := .by 24 1 .leaf (.by 24 2 (.by 28 1 .leaf (.by 28 2 (ajs t) (.by 28 4 .leaf (.by 28 5 (a8u t) .leaf)))) .leaf)
noncomputable def rO : aS := ku occurs.f [.g kM] (.a (.g (bJ 0)))
noncomputable def L1 : Lf := ((Lf.of (fE ++ [])).pin 6 1).pin 23 1
noncomputable def L3 : Lf := ((Lf.of (fE ++ [])).pin 6 1).pin 23 0
noncomputable def tbI : Tabs := bW.app (iG.app a6p)
def fxI (t : Nat) : Fx := ⟨[(93, 1, 97), (94, 1, 98), (94, 0, 94)], { eu.xt with sm := [(95, nm 0 t, 96)] }⟩
noncomputable def jU (t : Nat) : Bool := aI (dQ (dH (fun _ => rO) tbI aX) f (fxI t) [(a4d, true)] (usI t) ⟨21, 0, 5⟩ aY (hdI t) .normal (hdI t)) (stT t) L1
noncomputable def JU (t : Nat) : Bool := aI (dQ (dH gZ (bW.app iG) aX) f eu [] [isU (xi 96) (xi 93), isU (xi 97) (xi 94), isU (xi 98) (xi 95)] ⟨21, 0, 5⟩ aY (hdI t) (.exit 2) (sNI t)) .leaf L3
def WX (t : Nat) : E := ands [isE 53 3, isE 56 0, isE 57 0, isE 55 t]
def usA (t : Nat) : List Upd := [isU (xi 50) (xi 51), pick 77 [WX t] 78 77]
def opT (t : Nat) : HT := e1 53 3 (e1 54 0 (e1 55 t (e1 56 0 (e1 57 0 .leaf))))
def fxA : Fx := ⟨[(77, 1, 78)], eu.xt⟩
noncomputable def LA : Lf := ((Lf.of (fE ++ [])).pin 6 1).pin 52 1
noncomputable def LA0 : Lf := ((Lf.of (fE ++ [])).pin 6 1).pin 52 0
noncomputable def DC (t : Nat) : Bool := aI (dQ (dH gZ (bW.app (iG.app ae5)) aX) fP fxA [(occJump.okN, true)] (usA t) ⟨21, 0, 5⟩ iy (hdA t) .normal (hdA t)) (opT t) LA
noncomputable def MF (t : Nat) : Bool := aI (dQ (dH gZ (bW.app iG) aX) fP eu [] [isU (xi 101) (xi 77)] ⟨21, 0, 5⟩ iy (hdA t) (.exit 0) (sNA t)) .leaf LA0
noncomputable def mD (t : Nat) (K : Know) : Loops := iP 10 ⟨21, 0, 5⟩ (@thU K [isU (xi 21) (.int .i64 0), isU (xi 93) (xi 93), isU (xi 94) (xi 94), isU (xi 95) (xi 95)]) (hdI t) (.exit 2) (sNI t)
noncomputable def rowA (t : Nat) (K : Know) : Loops := iP 4 ⟨21, 0, 5⟩ (@thU K [isU (xi 50) (.int .i64 0), isU (xi 77) (.int .i64 0)]) (hdA t) (.exit 0) (sNA t)
noncomputable def rOJ : aS := ku occJump.f [.g lW] (.a (.g (bJ 0)))
def fxO (t : Nat) : Fx := ⟨[], { eu.xt with sm := [(98, nm 0 t, 99), (97, 101, 100)] }⟩
def usO : List Upd := [isU (xi 4) (xi 5), isU (xi 93) (xi 96), pick 94 [isE 8 4] 100 97, isU (xi 95) (xi 99)]
noncomputable def LO : Lf := (Lf.of (fE ++ [])).pin 6 1
noncomputable def LO0 : Lf := (Lf.of (fE ++ [])).pin 6 0
noncomputable def Kr (t : Nat) : Bool := aI (dQ (dH (fun _ => rOJ) (bW.app iG) fun K => dP [(f, mD t K), (fP, rowA t K)]) f (fxO t) [] usO ⟨4, 0, 3⟩ fM (hdO t) .normal (hdO t)) (e1 8 4 .leaf) LO
noncomputable def Nq (t : Nat) : Bool := aI (dQ (dH gZ bW aX) f eu [] [isU (xi 93) (xi 93), isU (xi 94) (xi 94), isU (xi 95) (xi 95)] ⟨4, 0, 3⟩ fM (hdO t) (.exit 0) (sNO t)) .leaf LO0
noncomputable def Oi (t : Nat) (K : Know) : Loops := iP 6 ⟨4, 0, 3⟩ (@thU K [isU (xi 4) (.int .i64 0), isU (xi 93) (.int .i64 0), isU (xi 94) (.int .i64 0), isU (xi 95) (.int .i64 0)]) (hdO t) (.exit 0) (sNO t)
noncomputable def LF : Lf := Lf.of (fE ++ List.replicate 19 twos.Hy)
def abb : E := ands [isE 93 1, isE 94 1, isE 95 2]
noncomputable def a3p (t : Nat) : Bool := aI (kG (dH gZ bW fun K => dP [(f, Oi t K)]) f eu [] [abb] (fun bs => V.s (.bool (bs.headD false))) [.g bQ, .s (lit t)]) (e1 93 1 (e1 94 1 (e1 95 2 .leaf))) (LF.hi 0 ((t : Int) - 1))
noncomputable def runN (t : Nat) : Bool := aI (kG (dH gZ bW aX) f eu [] [] (fun _ => V.s (.bool false)) [.g bQ, .s (lit t)]) .leaf (LF.lo 0 t)
theorem agt : jU 0 = true := by kernel_rfl
theorem agX : jU 1 = true := by kernel_rfl
theorem ahH : jU 2 = true := by kernel_rfl
theorem ahp : jU 3 = true := by kernel_rfl
theorem ah8 : jU 4 = true := by kernel_rfl
theorem ahz : jU 5 = true := by kernel_rfl
theorem agp : jU 6 = true := by kernel_rfl
theorem agA : jU 7 = true := by kernel_rfl
theorem ah3 : jU 8 = true := by kernel_rfl
theorem agP : jU 9 = true := by kernel_rfl
theorem acO : jU 10 = true := by kernel_rfl
theorem aah : jU 11 = true := by kernel_rfl
theorem adt : jU 12 = true := by kernel_rfl
theorem abK : jU 13 = true := by kernel_rfl
theorem aad : jU 14 = true := by kernel_rfl
theorem adw : jU 15 = true := by kernel_rfl
theorem af8 : ∀ t, t < 16 -> jU t = true := by
 intro t h
 match t, h with
 | 0, _ => exact agt
 | 1, _ => exact agX
 | 2, _ => exact ahH
 | 3, _ => exact ahp
 | 4, _ => exact ah8
 | 5, _ => exact ahz
 | 6, _ => exact agp
 | 7, _ => exact agA
 | 8, _ => exact ah3
 | 9, _ => exact agP
 | 10, _ => exact acO
 | 11, _ => exact aah
 | 12, _ => exact adt
 | 13, _ => exact abK
 | 14, _ => exact aad
 | 15, _ => exact adw
 | n + 16, h => exact absurd h (by omega)
theorem acg : ((List.range 16).all JU) = true := by kernel_rfl
theorem a8z : ((List.range 16).all DC) = true := by kernel_rfl
theorem abS : ((List.range 16).all MF) = true := by kernel_rfl
theorem aez : ((List.range 16).all Kr) = true := by kernel_rfl
theorem acR : ((List.range 16).all Nq) = true := by kernel_rfl
theorem afp : ((List.range 16).all a3p) = true := by kernel_rfl
theorem agz : ((List.range 16).all runN) = true := by kernel_rfl
theorem UU : fH (F.body.getD .skip) 0 6 = true := by kernel_rfl
theorem Rw : fH fM 0 10 = true := by kernel_rfl
theorem Ep : fH (F.body.getD .skip) 1 10 = true := by kernel_rfl
theorem RX : fH (FP.body.getD .skip) 0 4 = true := by kernel_rfl
end Go.Proofs.YtglmonlofejcgaaGreatDoor.onceR
