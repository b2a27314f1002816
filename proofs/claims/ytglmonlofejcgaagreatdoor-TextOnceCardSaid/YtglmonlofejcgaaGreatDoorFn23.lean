/- The reference's Two tells the two-phase locals. The reference's once, as the machine runs it. What the reference's once answers. -/
import Derived.Test.YtglmonlofejcgaaGreatDoorFn20
set_option maxRecDepth 100000
noncomputable section
open List renaming mem_singleton → apu, mem_cons → apv, not_mem_nil → apx, range → apy, take_length → apA, all_eq_true → apB, getElem?_eq_none → apC, mem_range → apD, getElem?_range → apE, getElem?_map → apF, length_take → apI
open Bool renaming and_true → apw, and_eq_true → apH
open Nat renaming zero_le → apz, le_refl → apG
set_option linter.unusedVariables false
set_option linter.unusedSectionVars false
namespace Go.Proofs.YtglmonlofejcgaaGreatDoor
namespace twoR
open Go.RowKit Am
def f : FuncId := 43
def F : Func := Tryz.f43
def fV : Code := dW F 0
def bf : Code := dW F 1
def keep : List (Nat × S) := [(1, .ptr 0 0), (2, .ptr 1 0), (3, .ptr 2 0)]
def ajP : List S := List.replicate 16 (.bool false)
def hp (n : Nat) : Hp := [(2, ⟨kH n, true⟩), (1, ⟨ajP, true⟩), (0, ⟨bT, true⟩)]
def yR : List (Nat × S) := keep ++ [(4, .xi .i64 4), (5, .rv 3)]
def hdO : St := ⟨iU F.ntmps (keep ++ [(4, .xi .i64 4)]), ⟨hp 0, 3⟩⟩
def hdI : St := ⟨iU F.ntmps (yR ++ [(6, .xi .i64 21)]), ⟨hp 0, 3⟩⟩
def sNI : St := ⟨iU F.ntmps yR, ⟨hp 1, 3⟩⟩
def sNO : St := ⟨iU F.ntmps keep, ⟨hp 0, 3⟩⟩
def aoV : HT := .by 24 1 .leaf (.by 24 2 (.by 28 4 .leaf (.by 28 5 (.by 30 3 .leaf (.by 30 4 .leaf .leaf)) .leaf)) .leaf)
def usI : List Upd := isU (.xi .i64 21) (.xi .i64 22) :: a1a 0 0 25 (twos.xM twos.Jk)
def L1 : Lf := twos.lV (((Lf.of (fJ ++ [])).pin 6 1).pin 23 1) 25
def L3 : Lf := ((Lf.of (fJ ++ [])).pin 6 1).pin 23 0
def tbI : Tabs := bW.app (iQ.app a6G)
theorem kE : aJ (dU (dH iq tbI aZ) f eU [] usI ⟨21, 0, 5⟩ bf hdI .normal hdI) aoV L1 = true := by kernel_rfl
theorem KJ : aJ (dU (dH iq (bW.app iQ) aZ) f eU [] (lQ 1 0) ⟨21, 0, 5⟩ bf hdI (.exit 2) sNI) .leaf L3 = true := by kernel_rfl
def nK (K : Know) : Loops := iW 8 ⟨21, 0, 5⟩ (@thU K (isU (.xi .i64 21) (.int .i64 0) :: lQ 0 0)) hdI (.exit 2) sNI
def LO : Lf := (Lf.of (fJ ++ [])).pin 6 1
def LO0 : Lf := (Lf.of (fJ ++ [])).pin 6 0
theorem Ns : aJ (dU (dH iq (bW.app iQ) fun K => dR [(f, nK K)]) f eU [] (isU (.xi .i64 4) (.xi .i64 5) :: lQ 0 1) ⟨4, 0, 3⟩ fV hdO .normal hdO) .leaf LO = true := by kernel_rfl
theorem KR : aJ (dU (dH iq bW aZ) f eU [] (lQ 0 0) ⟨4, 0, 3⟩ fV hdO (.exit 0) sNO) .leaf LO0 = true := by kernel_rfl
def Xj (K : Know) : Loops := iW 4 ⟨4, 0, 3⟩ (@thU K (isU (.xi .i64 4) (.int .i64 0) :: DT 0)) hdO (.exit 0) sNO
def LF : Lf := Lf.of (fJ ++ [])
theorem qF : aJ (kX (dH iq bW fun K => dR [(f, Xj K)]) f eU [] [] (fun _ => .a (.g (kH 0))) [.g bT]) .leaf LF = true := by kernel_rfl
theorem XD : fM (F.body.getD .skip) 0 4 = true := by kernel_rfl
theorem VI : fM fV 0 8 = true := by kernel_rfl
theorem DR : fM (F.body.getD .skip) 1 8 = true := by kernel_rfl
def I (D : FnD) (i k j : Nat) : Bool := (twos.ctK D (twos.Ct.at D i) i k).i j
def mI (D : FnD) (i k : Nat) : List Int := bU [fun j => b2i (I D i k j)] ++ []
def mO (D : FnD) (i : Nat) : List Int := bU [fun j => b2i ((twos.Ct.at D i).i j), fun j => b2i ((twos.Ct.at D (i + 1)).i j)] ++ []
def mF (D : FnD) : List Int := bU [fun j => b2i ((twos.Ct.fn D).i j)] ++ []
section
variable {w : World} {v : Value} {D : FnD} (h : aV w v D)
include h
theorem inner {i : Nat} (hi : i < D.bs.length) (hB : D.bs.length <= 1000) (hS : (D.blk i).st.length <= 1000) (hok : ((D.blk i).st.all fun st => dn.val st) = true) : ∀ K (ok : aG K (fnB w D (atB i) (mO D i)).rho (fnB w D (atB i) (mO D i)).sig), @aO ((fnB w D (atB i) (mO D i)).aH K ok) Tryz.prog (nK K) bf := by
 intro K ok
 have fit : ∀ k, k <= (D.blk i).st.length -> Fits D (made.atS i k) := fun k hk => iD ⟨by show i <= 1000; omega, by show k <= 1000; omega, apz _, apz _⟩
 have okk := (iJ (D.blk i).st [] fun st => dn.val st).2 hok
 have r0 : ∀ k j, j < 16 -> (fnB w D (made.atS i k) (mI D i k)).rho (nm 0 j) = b2i (I D i k j) := fun k j hj => gV (D := D) (q := made.atS i k) (fs := [fun j => b2i (I D i k j)]) (tail := []) (b := 0) (f := fun j => b2i (I D i k j)) rfl hj
 have o0 : ∀ j, j < 16 -> (fnB w D (atB i) (mO D i)).rho (nm 0 j) = b2i ((twos.Ct.at D i).i j) := fun j hj => gV (D := D) (q := atB i) (fs := [fun j => b2i ((twos.Ct.at D i).i j), fun j => b2i ((twos.Ct.at D (i + 1)).i j)]) (tail := []) (b := 0) (f := fun j => b2i ((twos.Ct.at D i).i j)) rfl hj
 have o1 : ∀ j, j < 16 -> (fnB w D (atB i) (mO D i)).rho (nm 1 j) = b2i ((twos.Ct.at D (i + 1)).i j) := fun j hj => gV (D := D) (q := atB i) (fs := [fun j => b2i ((twos.Ct.at D i).i j), fun j => b2i ((twos.Ct.at D (i + 1)).i j)]) (tail := []) (b := 1) (f := fun j => b2i ((twos.Ct.at D (i + 1)).i j)) rfl hj
 refine @dh _ _ (fun k => fnB w D (made.atS i k) (mI D i k)) bf _ _ hdI _ _ (fun e => by cases e) (D.blk i).st.length (bJ (atB i) (made.atS i 0) rfl _ _) (fun u hu => ?_) (fun k hk => ?_) ?_ 8 K ok
 ·rcases apv.1 hu with rfl | hu
  ·exact dP fun r v hv => hv
  exact iO (fun j hj => (o0 j hj).trans ((r0 0 j hj).trans (by show b2i ((twos.Ct.at D i).i j || false) = _; rw [Bool.or_false])).symm) u hu
 ·obtain ⟨_, _, _, si⟩ := twos.Vq (C := twos.Ct.at D i) hk
  have rg := EI (Dk h hi hk).1 (okk k hk) (c := 1) (by decide)
  refine bF kE (bD (@aW (fnB w D (made.atS i k) (mI D i k)) _ _ (aT h _ _) (@aW (fnB w D (made.atS i k) (mI D i k)) _ _ (dM h (q := made.atS i k) hi _) (DZ h (q := made.atS i k) hi hk _)))) (bJ (made.atS i k) (made.atS i (k + 1)) rfl _ _) (L := L1) ?_ (aQ D _ _) (fun p hp => by cases hp) (fun u hu => ?_) rfl (bC f bf)
  ·have hb := ((twos.fE h (made.atS i k) (fit k (by omega)) (mI D i k)).pin (i := 6) (c := 1) (show b2i (decide ((i : Int) < D.bs.length)) = 1 from (bY _).2 (by omega))).pin (i := 23) (c := 1) (show b2i (decide ((k : Int) < (D.blk i).st.length)) = 1 from (bY _).2 (by omega))
   exact (hb.lo (i := 25) (c := 0) (show 0 <= ah (D.stm i k) 1 from rg.1)).hi (i := 25) (c := 15) (show ah (D.stm i k) 1 <= 15 from rg.2)
  ·rcases apv.1 hu with rfl | hu
   ·exact dP fun r v hv => hv
   refine Rw (fun j hj => ?_) u hu
   have e25 : (fnB w D (made.atS i k) (mI D i k)).rho 25 = ah (D.stm i k) 1 := rfl
   rw [show (twos.xM twos.Jk).num (fnB w D (made.atS i k) (mI D i k)).rho = twos.Jk.num (ah (D.stm i k)) from zL (made.atS i k) _ rfl, e25, r0 (k + 1) j hj, r0 k j hj]
   unfold I
   rw [si j, made.oC, made.oC]
   unfold twos.isS twos.YJ
   rw [Bool.or_eq_true, apH, decide_eq_true_iff]
   exact Or.comm
 ·refine bF KJ (bD (@aW (fnB w D (made.atS i _) (mI D i _)) _ _ (aT h _ _) (dM h (q := made.atS i _) hi _))) (bJ (made.atS i (D.blk i).st.length) (atB i) rfl _ _) (L := L3) ?_ (aQ D _ _) (fun p hp => by cases hp) (fun u hu => ?_) rfl (bC f bf)
  ·exact ((twos.fE h _ (fit _ (apG _)) _).pin (i := 6) (c := 1) (show b2i (decide ((i : Int) < D.bs.length)) = 1 from (bY _).2 (by omega))).pin (i := 23) (c := 0) (show b2i (decide (((D.blk i).st.length : Int) < (D.blk i).st.length)) = 0 by rw [decide_eq_false (by omega)]; rfl)
  ·refine iO (fun j hj => (r0 _ j hj).trans (Eq.trans ?_ (o1 j hj).symm)) u hu
   have e : twos.ctK D (twos.Ct.at D i) i (D.blk i).st.length = (twos.Ct.at D i).stm (D.blk i).st := by unfold twos.ctK; rw [apA]
   unfold I
   rw [e, twos.JR hi]
   exact congrArg b2i (twos.Vp h (D.blk i) ((twos.Ct.at D i).stm (D.blk i).st) j).2.2.2.symm
theorem outer (hs : twos.Sm D) (hok : ∀ b ∈ D.bs, made.okB b = true) : ∀ K (ok : aG K (fnB w D (atB 0) (mF D)).rho (fnB w D (atB 0) (mF D)).sig), @aO ((fnB w D (atB 0) (mF D)).aH K ok) Tryz.prog (Xj K) fV := by
 intro K ok
 have hn := hs.b
 have okb : ∀ i, i < D.bs.length -> ((D.blk i).st.all fun st => dn.val st) = true := fun i hi => by
  have := hok _ (twos.oG hi)
  unfold made.okB at this
  rw [apH] at this
  exact this.1
 have o0 : ∀ i j, j < 16 -> (fnB w D (atB i) (mO D i)).rho (nm 0 j) = b2i ((twos.Ct.at D i).i j) := fun i j hj => gV (D := D) (q := atB i) (fs := [fun j => b2i ((twos.Ct.at D i).i j), fun j => b2i ((twos.Ct.at D (i + 1)).i j)]) (tail := []) (b := 0) (f := fun j => b2i ((twos.Ct.at D i).i j)) rfl hj
 have o1 : ∀ i j, j < 16 -> (fnB w D (atB i) (mO D i)).rho (nm 1 j) = b2i ((twos.Ct.at D (i + 1)).i j) := fun i j hj => gV (D := D) (q := atB i) (fs := [fun j => b2i ((twos.Ct.at D i).i j), fun j => b2i ((twos.Ct.at D (i + 1)).i j)]) (tail := []) (b := 1) (f := fun j => b2i ((twos.Ct.at D (i + 1)).i j)) rfl hj
 have rI : ∀ i (hi : i < D.bs.length) K (ok : aG K (fnB w D (atB i) (mO D i)).rho (fnB w D (atB i) (mO D i)).sig), @aO ((fnB w D (atB i) (mO D i)).aH K ok) Tryz.prog (nK K) bf := fun i hi =>
  inner h hi (by omega) (by have := (hs.s _ (twos.oG hi)).1; omega) (okb i hi)
 refine @dh _ _ (fun i => fnB w D (atB i) (mO D i)) fV _ _ hdO _ _ (fun e => by cases e) D.bs.length (bQ _ _ _ _) (fun u hu => ?_) (fun i hi => ?_) ?_ 4 K ok
 ·rcases apv.1 hu with rfl | hu
  ·exact dP fun r v hv => hv
  exact IY (fun j hj => o0 0 j hj) u hu
 ·refine bF Ns (fK je (@aW (fnB w D (atB i) (mO D i)) _ _ (aT h _ _) (dM h (q := atB i) hi _)) (rows_ok (T := fun K => [(f, nK K)]) fun K ok p hp => ?_)) (bQ _ _ _ _) (L := LO) ?_ (aQ D _ _) (fun p hp => by cases hp) (fun u hu => ?_) rfl (fun K ok => qo (F := F) (cc := fV) fun p hp e => ?_)
  ·obtain rfl := apu.1 hp
   exact ⟨F, Tryz.func43, fun c hc => iM DR (rI i hi K ok) hc⟩
  ·exact (twos.fE h (atB i) (gX (by omega)) (mO D i)).pin (i := 6) (c := 1) (show b2i (decide ((i : Int) < D.bs.length)) = 1 from (bY _).2 (by omega))
  ·rcases apv.1 hu with rfl | hu
   ·exact dP fun r v hv => hv
   exact iO (fun j hj => (o1 i j hj).trans (o0 (i + 1) j hj).symm) u hu
  ·obtain rfl := apu.1 hp
   exact qB VI (rI i hi K ok)
 ·refine bF KR (bD (aT h _ _)) (bQ _ _ _ _) (L := LO0) ?_ (aQ D _ _) (fun p hp => by cases hp) (fun u hu => ?_) rfl (bC f fV)
  ·exact (twos.fE h (atB D.bs.length) (gX (by omega)) _).pin (i := 6) (c := 0) (show b2i (decide ((D.bs.length : Int) < D.bs.length)) = 0 by rw [decide_eq_false (by omega)]; rfl)
  ·have e : twos.Ct.at D D.bs.length = twos.Ct.fn D := by unfold twos.Ct.at twos.Ct.fn; rw [apA]
   exact iO (fun j hj => (o0 _ j hj).trans (by
    rw [e]
    exact (gV (D := D) (q := atB 0) (fs := [fun j => b2i ((twos.Ct.fn D).i j)]) (tail := []) (b := 0) (f := fun j => b2i ((twos.Ct.fn D).i j)) rfl hj).symm)) u hu
theorem aii (hs : twos.Sm D) (hok : ∀ b ∈ D.bs, made.okB b = true) : bG f [v] w (twos.isV D) := by
 refine jH h qF (fK je (aT h (atB 0) (mF D)) (rows_ok (T := fun K => [(f, Xj K)]) fun K ok p hp => ?_)) (twos.fE h (atB 0) (gX (by omega)) _) (aQ D _ _) (fun p hp => by cases hp) (fun r x hx => ?_)
 ·obtain rfl := apu.1 hp
  exact ⟨F, Tryz.func43, fun c hc => iM XD (outer h hs hok K ok) hc⟩
 ·obtain ⟨us, rfl, hus⟩ := hx
  unfold twos.isV
  congr 2
  refine List.ext_getElem? fun j => ?_
  by_cases hj : j < 16
  ·have hb : nth (kH 0) j = some (.xe [(nm 0 j, 1)]) := by
    rw [aN]
    unfold kH
    rw [apF, apE hj]
    rfl
   obtain ⟨u, hu, hv⟩ := ak.nth hus hb
   rw [hu, apF, apE hj]
   have hv : u = .bool (decide (aF (aK D (atB 0) (mF D)) (nm 0 j) = 1) || false) := hv
   rw [hv, show aF (aK D (atB 0) (mF D)) (nm 0 j) = b2i ((twos.Ct.fn D).i j) from gV (D := D) (q := atB 0) (fs := [fun j => b2i ((twos.Ct.fn D).i j)]) (tail := []) (b := 0) (f := fun j => b2i ((twos.Ct.fn D).i j)) rfl hj, made.eG, Bool.or_false]
   rfl
  ·have hl : us.length = 16 := by have := hus.len; simp [kH] at this; omega
   rw [apC (by omega), apC (by simp; omega)]
end
end twoR
namespace onceR
open Go.RowKit Am
def f : FuncId := 44
def F : Func := Tryz.f44
def fP : FuncId := 80
def FP : Func := Tryz.f80
def fV : Code := dW F 0
def bf : Code := dW F 1
def iG : Code := dW FP 0
def xi (n : Nat) : S := .xi .i64 n
def lit (t : Nat) : S := .int .i64 t
def hp : Hp := [(0, ⟨bT, true⟩)]
def keep (t : Nat) : List (Nat × S) := [(1, lit t), (2, .ptr 0 0), (4, .bool false)]
def cts (a b c : Nat) : List (Nat × S) := [(5, xi a), (6, xi b), (7, xi c)]
def yR (t : Nat) : List (Nat × S) := keep t ++ [(8, xi 4), (9, .rv 3)]
def hdO (t : Nat) : St := ⟨iU F.ntmps (keep t ++ (cts 93 94 95 ++ [(8, xi 4)])), ⟨hp, 1⟩⟩
def sNO (t : Nat) : St := ⟨iU F.ntmps (keep t ++ cts 93 94 95), ⟨hp, 1⟩⟩
def hdI (t : Nat) : St := ⟨iU F.ntmps (yR t ++ (cts 93 94 95 ++ [(10, xi 21)])), ⟨hp, 1⟩⟩
def sNI (t : Nat) : St := ⟨iU F.ntmps (yR t ++ cts 96 97 98), ⟨hp, 1⟩⟩
def hdA (t : Nat) : St := ⟨iU FP.ntmps [(0, .rv 4), (1, lit t), (4, .int .i64 0), (5, xi 77), (6, xi 50)], ⟨[], 0⟩⟩
def sNA (t : Nat) : St := ⟨iU FP.ntmps [(5, xi 101)], ⟨[], 0⟩⟩
def e1 (i : Nat) (c : Int) (t : HT) : HT := .by i c .leaf (.by i (c + 1) t .leaf)
def aor (t : Nat) : E := ands [twos.xM twos.Jk, isE 25 t, isE 26 0, isE 27 0, .not (isE 41 t)]
def aot (t : Nat) : E := ands [twos.xM twos.O5, isE 33 t]
def pick (y : Nat) (es : List E) (a b : Nat) : Upd := ⟨xi y, es, fun bs => bif bs.headD false then xi a else xi b⟩
def usI (t : Nat) : List Upd := [isU (xi 21) (xi 22), pick 93 [aor t] 97 93, pick 94 [aot t] 98 94, isU (xi 95) (xi 96)]
def Uh (t : Nat) : HT := e1 30 3 (e1 25 t (e1 26 0 (e1 27 0 (e1 41 t .leaf))))
def am1 (t : Nat) : HT := e1 31 3 (e1 32 0 (e1 33 t (e1 34 0 (e1 35 0 .leaf))))
def stT (t : Nat) : HT := .by 24 1 .leaf (.by 24 2 (.by 28 1 .leaf (.by 28 2 (am1 t) (.by 28 4 .leaf (.by 28 5 (Uh t) .leaf)))) .leaf)
def rO : aS := kU occurs.f [.g lM] (.a (.g (bI 0)))
def L1 : Lf := ((Lf.of (fJ ++ [])).pin 6 1).pin 23 1
def L3 : Lf := ((Lf.of (fJ ++ [])).pin 6 1).pin 23 0
def tbI : Tabs := bW.app (iQ.app a6G)
def fxI (t : Nat) : Fx := ⟨[(93, 1, 97), (94, 1, 98), (94, 0, 94)], { eU.xt with sm := [(95, nm 0 t, 96)] }⟩
def kE (t : Nat) : Bool := aJ (dU (dH (fun _ => rO) tbI aZ) f (fxI t) [(a5K, true)] (usI t) ⟨21, 0, 5⟩ bf (hdI t) .normal (hdI t)) (stT t) L1
def KJ (t : Nat) : Bool := aJ (dU (dH iq (bW.app iQ) aZ) f eU [] [isU (xi 96) (xi 93), isU (xi 97) (xi 94), isU (xi 98) (xi 95)] ⟨21, 0, 5⟩ bf (hdI t) (.exit 2) (sNI t)) .leaf L3
def YD (t : Nat) : E := ands [isE 53 3, isE 56 0, isE 57 0, isE 55 t]
def usA (t : Nat) : List Upd := [isU (xi 50) (xi 51), pick 77 [YD t] 78 77]
def opT (t : Nat) : HT := e1 53 3 (e1 54 0 (e1 55 t (e1 56 0 (e1 57 0 .leaf))))
def fxA : Fx := ⟨[(77, 1, 78)], eU.xt⟩
def LA : Lf := ((Lf.of (fJ ++ [])).pin 6 1).pin 52 1
def LA0 : Lf := ((Lf.of (fJ ++ [])).pin 6 1).pin 52 0
def EL (t : Nat) : Bool := aJ (dU (dH iq (bW.app (iQ.app ahq)) aZ) fP fxA [(occJump.okN, true)] (usA t) ⟨21, 0, 5⟩ iG (hdA t) .normal (hdA t)) (opT t) LA
def N7 (t : Nat) : Bool := aJ (dU (dH iq (bW.app iQ) aZ) fP eU [] [isU (xi 101) (xi 77)] ⟨21, 0, 5⟩ iG (hdA t) (.exit 0) (sNA t)) .leaf LA0
def nK (t : Nat) (K : Know) : Loops := iW 10 ⟨21, 0, 5⟩ (@thU K [isU (xi 21) (.int .i64 0), isU (xi 93) (xi 93), isU (xi 94) (xi 94), isU (xi 95) (xi 95)]) (hdI t) (.exit 2) (sNI t)
def rowA (t : Nat) (K : Know) : Loops := iW 4 ⟨21, 0, 5⟩ (@thU K [isU (xi 50) (.int .i64 0), isU (xi 77) (.int .i64 0)]) (hdA t) (.exit 0) (sNA t)
def rOJ : aS := kU occJump.f [.g ni] (.a (.g (bI 0)))
def fxO (t : Nat) : Fx := ⟨[], { eU.xt with sm := [(98, nm 0 t, 99), (97, 101, 100)] }⟩
def usO : List Upd := [isU (xi 4) (xi 5), isU (xi 93) (xi 96), pick 94 [isE 8 4] 100 97, isU (xi 95) (xi 99)]
def LO : Lf := (Lf.of (fJ ++ [])).pin 6 1
def LO0 : Lf := (Lf.of (fJ ++ [])).pin 6 0
def Ns (t : Nat) : Bool := aJ (dU (dH (fun _ => rOJ) (bW.app iQ) fun K => dR [(f, nK t K), (fP, rowA t K)]) f (fxO t) [] usO ⟨4, 0, 3⟩ fV (hdO t) .normal (hdO t)) (e1 8 4 .leaf) LO
def KR (t : Nat) : Bool := aJ (dU (dH iq bW aZ) f eU [] [isU (xi 93) (xi 93), isU (xi 94) (xi 94), isU (xi 95) (xi 95)] ⟨4, 0, 3⟩ fV (hdO t) (.exit 0) (sNO t)) .leaf LO0
def Xj (t : Nat) (K : Know) : Loops := iW 6 ⟨4, 0, 3⟩ (@thU K [isU (xi 4) (.int .i64 0), isU (xi 93) (.int .i64 0), isU (xi 94) (.int .i64 0), isU (xi 95) (.int .i64 0)]) (hdO t) (.exit 0) (sNO t)
def LF : Lf := Lf.of (fJ ++ List.replicate 19 twos.Jl)
def aev : E := ands [isE 93 1, isE 94 1, isE 95 2]
def ZG (t : Nat) : Bool := aJ (kX (dH iq bW fun K => dR [(f, Xj t K)]) f eU [] [aev] (fun bs => V.s (.bool (bs.headD false))) [.g bT, .s (lit t)]) (e1 93 1 (e1 94 1 (e1 95 2 .leaf))) (LF.hi 0 ((t : Int) - 1))
def runN (t : Nat) : Bool := aJ (kX (dH iq bW aZ) f eU [] [] (fun _ => V.s (.bool false)) [.g bT, .s (lit t)]) .leaf (LF.lo 0 t)
theorem ain : kE 0 = true := by kernel_rfl
theorem ajU : kE 1 = true := by kernel_rfl
theorem ahK : kE 2 = true := by kernel_rfl
theorem ajL : kE 3 = true := by kernel_rfl
theorem ajy : kE 4 = true := by kernel_rfl
theorem aj3 : kE 5 = true := by kernel_rfl
theorem ajR : kE 6 = true := by kernel_rfl
theorem aiN : kE 7 = true := by kernel_rfl
theorem aiJ : kE 8 = true := by kernel_rfl
theorem ai8 : kE 9 = true := by kernel_rfl
theorem ac1 : kE 10 = true := by kernel_rfl
theorem agV : kE 11 = true := by kernel_rfl
theorem afV : kE 12 = true := by kernel_rfl
theorem af0 : kE 13 = true := by kernel_rfl
theorem acT : kE 14 = true := by kernel_rfl
theorem acJ : kE 15 = true := by kernel_rfl
theorem afR : ∀ t, t < 16 -> kE t = true := by
 intro t h
 match t, h with
 | 0, _ => exact ain
 | 1, _ => exact ajU
 | 2, _ => exact ahK
 | 3, _ => exact ajL
 | 4, _ => exact ajy
 | 5, _ => exact aj3
 | 6, _ => exact ajR
 | 7, _ => exact aiN
 | 8, _ => exact aiJ
 | 9, _ => exact ai8
 | 10, _ => exact ac1
 | 11, _ => exact agV
 | 12, _ => exact afV
 | 13, _ => exact af0
 | 14, _ => exact acT
 | 15, _ => exact acJ
 | n + 16, h => exact absurd h (by omega)
theorem abh : ((apy 16).all KJ) = true := by kernel_rfl
theorem aaA : ((apy 16).all EL) = true := by kernel_rfl
theorem abf : ((apy 16).all N7) = true := by kernel_rfl
theorem a9V : ((apy 16).all Ns) = true := by kernel_rfl
theorem ah8 : ((apy 16).all KR) = true := by kernel_rfl
theorem ahH : ((apy 16).all ZG) = true := by kernel_rfl
theorem ak7 : ((apy 16).all runN) = true := by kernel_rfl
theorem XD : fM (F.body.getD .skip) 0 6 = true := by kernel_rfl
theorem VI : fM fV 0 10 = true := by kernel_rfl
theorem DR : fM (F.body.getD .skip) 1 10 = true := by kernel_rfl
theorem Va : fM (FP.body.getD .skip) 0 4 = true := by kernel_rfl
open twos (Ct)
theorem uf {b1 b2 : Base} {y x : Nat} (e : b1.rho x = b2.rho y) : iI b1 b2 (isU (xi y) (xi x)) := by
 intro r v hv
 have hv : v = .int .i64 (b1.rho x) := hv
 show v = .int .i64 (b2.rho y)
 rw [hv, e]
theorem JM {b1 b2 : Base} {y : Nat} (e : b2.rho y = 0) : iI b1 b2 (isU (xi y) (.int .i64 0)) := by
 intro r v hv
 have hv : v = .int .i64 0 := hv
 show v = .int .i64 (b2.rho y)
 rw [hv, e]
theorem JI {b1 b2 : Base} {y a b : Nat} {e : E} (h : (bif e.num b1.rho then b1.rho a else b1.rho b) = b2.rho y) : iI b1 b2 (pick y [e] a b) := by
 intro r v hv
 have hv : @VS b1 r (bif e.num b1.rho then xi a else xi b) v := hv
 show v = .int .i64 (b2.rho y)
 rw [<- h]
 cases he : e.num b1.rho with
 | true => rw [he] at hv; exact hv
 | false => rw [he] at hv; exact hv
theorem kQ {D : FnD} {q : At} {G : Nat -> Int} {tl : List Int} (j : Nat) : aF (aK D q (bU [G] ++ tl)) (93 + j) = aF tl j := by
 rw [show 93 + j = 77 + (16 * 1 + j) by omega]
 exact Fa (fs := [G]) rfl j
theorem anl {D : FnD} {q : At} {G : Nat -> Int} {tl : List Int} {j : Nat} (hj : j < 16) : aF (aK D q (bU [G] ++ tl)) (nm 0 j) = G j := gV (fs := [G]) (b := 0) rfl hj
def SQ (D : FnD) (t : Nat) : Bool := decide (D.p < t) && (decide ((Ct.fn D).s t = 1) && (decide ((Ct.fn D).p t = 1) && decide ((Ct.fn D).a t = 2)))
def tI (C : Ct) (G : Nat -> Int) (t : Nat) : List Int := [C.s t, C.p t, C.a t, C.a t + G t, C.s t + 1, C.p t + 1]
def mI (D : FnD) (i t k : Nat) : List Int := bU [twos.sK (D.stm i k)] ++ tI (twos.ctK D (Ct.at D i) i k) (twos.sK (D.stm i k)) t
def nP (b : bK) (t k : Nat) : Int := acc (fun op => twos.tH op t) (b.ops.take k)
def aP (b : bK) (t : Nat) : Int := acc (fun op => twos.tH op t) b.ops
def mA (b : bK) (t k : Nat) : List Int := [nP b t k, nP b t k + 1]
def tO (b : bK) (C C1 : Ct) (t : Nat) : List Int := [C.s t, C.p t, C.a t, C1.s t, C1.p t, C1.a t, C1.a t + occJump.oV b t, C1.p t + aP b t, aP b t]
def mO (D : FnD) (t i : Nat) : List Int := bU [occJump.oV (D.blk i)] ++ tO (D.blk i) (Ct.at D i) ((Ct.at D i).stm (D.blk i).st) t
def mF (D : FnD) (t : Nat) : List Int := bU [fun _ => 0] ++ [(Ct.fn D).s t, (Ct.fn D).p t, (Ct.fn D).a t]
theorem aoB (a b c d : Bool) : (a && (b && (c && d))) = ((a && (b && c)) && d) := by cases a <;> cases b <;> cases c <;> cases d <;> rfl
theorem aiL (st : List Value) (t : Nat) : (twos.YJ st && (decide (ah st 1 = (t : Int)) && (decide (ah st 2 = 0) && (decide (ah st 3 = 0) && !decide (ah st 17 = (t : Int)))))) = (twos.setB st && decide (ah st 1 = (t : Int))) := by
 unfold twos.setB
 by_cases h1 : ah st 1 = (t : Int)
 ·rw [h1, decide_eq_true (rfl : (t : Int) = t)]; cases twos.YJ st <;> cases decide (ah st 2 = 0) <;> cases decide (ah st 3 = 0) <;> cases decide (ah st 17 = (t : Int)) <;> rfl
 ·rw [decide_eq_false h1]; cases twos.YJ st <;> cases decide (ah st 2 = 0) <;> cases decide (ah st 3 = 0) <;> cases decide (ah st 17 = ah st 1) <;> rfl
theorem ahi {w : World} {v : Value} {D : FnD} (h : aV w v D) (b : bK) (C1 : Ct) (t : Nat) (hno : ah b.pre 0 ≠ 4 -> b.ops = []) :
  (C1.jmp b).a t = C1.a t + occJump.oV b t /\ (C1.jmp b).p t = (bif decide (ah b.pre 0 = 4) then C1.p t + aP b t else C1.p t) /\ (C1.jmp b).s t = C1.s t := by
 obtain ⟨ja, jp, js, _⟩ := twos.Vp h b C1 t
 refine ⟨?_, ?_, js⟩
 ·rw [ja]
  unfold occJump.oV occJump.LC
  by_cases h2 : ah b.pre 0 = 2
  ·rw [if_pos h2, decide_eq_true h2, decide_eq_false (show ¬ ah b.pre 0 = 4 by omega)]
   by_cases h1 : ah b.pre 1 = 1
   ·rw [if_pos h1, decide_eq_true h1]; show C1.a t = _; omega
   ·rw [if_neg h1, decide_eq_false h1]
    show C1.a t + _ = C1.a t + (0 + _)
    omega
  ·rw [if_neg h2, decide_eq_false h2]
   by_cases h4 : ah b.pre 0 = 4
   ·rw [if_pos h4, decide_eq_true h4]
    show (C1.a t + b2i _) + acc _ _ = C1.a t + (acc _ _ + b2i _)
    omega
   ·rw [if_neg h4, decide_eq_false h4, hno h4]
    show C1.a t = C1.a t + 0
    omega
 ·rw [jp]
  rfl
section
variable {w : World} {v : Value} {D : FnD} (h : aV w v D)
include h
theorem Ea {F : FuncId} (hF : dG Tryz.prog F) {q : At} {G : Nat -> Int} {tl : List Int} {cs : List S} {u : Value} (hu : ak (@VA (fnB w D q (bU [G] ++ tl)) r0) [.g cs] [u]) (h1 : [A.g cs].all A.rG = true) (ha : ∀ w', aV w' v D -> bG F [u] w' (oZ G)) (K : Know) (ok : aG K (fnB w D q (bU [G] ++ tl)).rho (fnB w D q (bU [G] ++ tl)).sig) : @Sound ((fnB w D q (bU [G] ++ tl)).aH K ok) Tryz.prog (kU F [.g cs] (.a (.g (bI 0)))) := by
 refine @dF ((fnB w D q (bU [G] ++ tl)).aH K ok) _ F hF _ _ h1 [u] hu (oZ G) (fun r => @vH ((fnB w D q (bU [G] ++ tl)).aH K ok) 0 G (fun j hj => gV (D := D) (q := q) (fs := [G]) (tail := tl) (b := 0) rfl hj) r) fun w' hw => ha w' (h.frz hw)
theorem amb {t : Nat} (ht : t < 16) {q : At} {G : Nat -> Int} {C : Ct} {M : Int} (hC : C.In M) (hM : M <= 900000) (hG : 0 <= G t /\ G t <= 1000) : vT (fxI t) (aF (aK D q (bU [G] ++ tI C G t))) := by
 have h0 := aQ D q (bU [G] ++ tI C G t)
 have a0 : aF (aK D q (bU [G] ++ tI C G t)) 93 = C.s t := kQ 0
 have a1 : aF (aK D q (bU [G] ++ tI C G t)) 94 = C.p t := kQ 1
 have a2 : aF (aK D q (bU [G] ++ tI C G t)) 95 = C.a t := kQ 2
 have a3 : aF (aK D q (bU [G] ++ tI C G t)) 96 = C.a t + G t := kQ 3
 have a4 : aF (aK D q (bU [G] ++ tI C G t)) 97 = C.s t + 1 := kQ 4
 have a5 : aF (aK D q (bU [G] ++ tI C G t)) 98 = C.p t + 1 := kQ 5
 have b1 := hC.s t
 have b2 := hC.p t
 have b3 := hC.a t
 refine ⟨fun i c k hm => ?_, ⟨h0.xt.lf, fun i j k hm => ?_, h0.xt.ld, h0.xt.sr, h0.xt.eq⟩⟩
 ·simp only [fxI, apv, apx, or_false, Prod.mk.injEq] at hm
  rcases hm with ⟨rfl, rfl, rfl⟩ | ⟨rfl, rfl, rfl⟩ | ⟨rfl, rfl, rfl⟩
  ·rw [a0, a4]; exact ⟨rfl, by show (-9223372036854775808 : Int) <= _; omega, by show _ <= (9223372036854775807 : Int); omega⟩
  ·rw [a1, a5]; exact ⟨rfl, by show (-9223372036854775808 : Int) <= _; omega, by show _ <= (9223372036854775807 : Int); omega⟩
  ·rw [a1]; exact ⟨by omega, by show (-9223372036854775808 : Int) <= _; omega, by show _ <= (9223372036854775807 : Int); omega⟩
 ·obtain e := apu.1 (show (i, j, k) ∈ [(95, nm 0 t, 96)] from hm)
  cases e
  rw [a2, a3, anl ht]
  exact ⟨rfl, by show (-9223372036854775808 : Int) <= _; omega, by show _ <= (9223372036854775807 : Int); omega⟩
theorem inner {i t : Nat} (ht : t < 16) (hi : i < D.bs.length) (hB : D.bs.length <= 1000) (hS : (D.blk i).st.length <= 1000) (hok : ((D.blk i).st.all fun st => dn.val st) = true) (hC : (Ct.at D i).In 24000) :
  ∀ K (ok : aG K (fnB w D (atB i) (mO D t i)).rho (fnB w D (atB i) (mO D t i)).sig), @aO ((fnB w D (atB i) (mO D t i)).aH K ok) Tryz.prog (nK t K) bf := by
 intro K ok
 have fit : ∀ k, k <= (D.blk i).st.length -> Fits D (made.atS i k) := fun k hk => iD ⟨by show i <= 1000; omega, by show k <= 1000; omega, apz _, apz _⟩
 have okk := (iJ (D.blk i).st [] fun st => dn.val st).2 hok
 have n93 : ∀ k, (fnB w D (made.atS i k) (mI D i t k)).rho 93 = (twos.ctK D (Ct.at D i) i k).s t := fun k => kQ 0
 have n94 : ∀ k, (fnB w D (made.atS i k) (mI D i t k)).rho 94 = (twos.ctK D (Ct.at D i) i k).p t := fun k => kQ 1
 have n95 : ∀ k, (fnB w D (made.atS i k) (mI D i t k)).rho 95 = (twos.ctK D (Ct.at D i) i k).a t := fun k => kQ 2
 have n96 : ∀ k, (fnB w D (made.atS i k) (mI D i t k)).rho 96 = (twos.ctK D (Ct.at D i) i k).a t + twos.sK (D.stm i k) t := fun k => kQ 3
 have n97 : ∀ k, (fnB w D (made.atS i k) (mI D i t k)).rho 97 = (twos.ctK D (Ct.at D i) i k).s t + 1 := fun k => kQ 4
 have n98 : ∀ k, (fnB w D (made.atS i k) (mI D i t k)).rho 98 = (twos.ctK D (Ct.at D i) i k).p t + 1 := fun k => kQ 5
 have o93 : (fnB w D (atB i) (mO D t i)).rho 93 = (Ct.at D i).s t := kQ 0
 have o94 : (fnB w D (atB i) (mO D t i)).rho 94 = (Ct.at D i).p t := kQ 1
 have o95 : (fnB w D (atB i) (mO D t i)).rho 95 = (Ct.at D i).a t := kQ 2
 have o96 : (fnB w D (atB i) (mO D t i)).rho 96 = ((Ct.at D i).stm (D.blk i).st).s t := kQ 3
 have o97 : (fnB w D (atB i) (mO D t i)).rho 97 = ((Ct.at D i).stm (D.blk i).st).p t := kQ 4
 have o98 : (fnB w D (atB i) (mO D t i)).rho 98 = ((Ct.at D i).stm (D.blk i).st).a t := kQ 5
 refine @dh _ _ (fun k => fnB w D (made.atS i k) (mI D i t k)) bf _ _ (hdI t) _ _ (fun e => by cases e) (D.blk i).st.length (bJ (atB i) (made.atS i 0) rfl _ _) (fun u hu => ?_) (fun k hk => ?_) ?_ 10 K ok
 ·simp only [apv, apx, or_false] at hu
  rcases hu with rfl | rfl | rfl | rfl
  ·exact dP fun r v hv => hv
  ·exact uf (o93.trans ((n93 0).trans (by show (Ct.at D i).s t + 0 = _; omega)).symm)
  ·exact uf (o94.trans ((n94 0).trans (by show (Ct.at D i).p t + 0 = _; omega)).symm)
  ·exact uf (o95.trans ((n95 0).trans (by show (Ct.at D i).a t + 0 = _; omega)).symm)
 ·obtain ⟨sa, sp, ss, _⟩ := twos.Vq (C := Ct.at D i) hk
  have okS := okk k hk
  have hl : ((D.blk i).st.take k).length <= 1000 := by rw [apI]; omega
  refine bF (afR t ht) (fK (Ea h ⟨_, Tryz.func79, by kernel_rfl, by kernel_rfl⟩ (occurs.a0J h (made.atS i k) _ hi hk) (by rfl) fun w' hw => occurs.a1I hw hB hS hi hk okS) (@aW (fnB w D (made.atS i k) (mI D i t k)) _ _ (aT h _ _) (@aW (fnB w D (made.atS i k) (mI D i t k)) _ _ (dM h (q := made.atS i k) hi _) (DZ h (q := made.atS i k) hi hk _))) oU)
   (bJ (made.atS i k) (made.atS i (k + 1)) rfl _ _) (L := L1) ?_ (amb h ht (twos.In.stm hC _) (by omega) (by have := twos.ZN (D.stm i k) t; omega)) (fun p hp => ?_) (fun u hu => ?_) rfl (bC f bf)
  ·exact ((twos.fE h (made.atS i k) (fit k (by omega)) _).pin (i := 6) (c := 1) (show b2i (decide ((i : Int) < D.bs.length)) = 1 from (bY _).2 (by omega))).pin (i := 23) (c := 1) (show b2i (decide ((k : Int) < (D.blk i).st.length)) = 1 from (bY _).2 (by omega))
  ·obtain rfl := apu.1 hp
   exact (JJ (made.atS i k) _).trans okS
  ·simp only [usI, apv, apx, or_false] at hu
   rcases hu with rfl | rfl | rfl | rfl
   ·exact dP fun r v hv => hv
   ·refine JI ?_
    have e25 : (fnB w D (made.atS i k) (mI D i t k)).rho 25 = ah (D.stm i k) 1 := rfl
    have e26 : (fnB w D (made.atS i k) (mI D i t k)).rho 26 = ah (D.stm i k) 2 := rfl
    have e27 : (fnB w D (made.atS i k) (mI D i t k)).rho 27 = ah (D.stm i k) 3 := rfl
    have e41 : (fnB w D (made.atS i k) (mI D i t k)).rho 41 = ah (D.stm i k) 17 := rfl
    have eS : (aor t).num (fnB w D (made.atS i k) (mI D i t k)).rho = (twos.setB (D.stm i k) && decide (ah (D.stm i k) 1 = (t : Int))) := by
     show ((twos.xM twos.Jk).num _ && ((decide (_ = (t : Int)) && true) && ((decide (_ = (0 : Int)) && true) && ((decide (_ = (0 : Int)) && true) && !(decide (_ = (t : Int)) && true))))) = _
     rw [show (twos.xM twos.Jk).num (fnB w D (made.atS i k) (mI D i t k)).rho = twos.YJ (D.stm i k) from zL (made.atS i k) _ rfl, e25, e26, e27, e41, apw, apw, apw, apw]
     exact aiL _ _
    rw [eS, n93 (k + 1), ss t, n93 k, n97 k]
    unfold twos.ae5
    cases (twos.setB (D.stm i k) && decide (ah (D.stm i k) 1 = (t : Int))) with
    | true => rfl
    | false => show _ = _ + (0 : Int); rw [cond_false]; omega
   ·refine JI ?_
    have e33 : (fnB w D (made.atS i k) (mI D i t k)).rho 33 = ah (D.stm i k) 9 := rfl
    have eS : (aot t).num (fnB w D (made.atS i k) (mI D i t k)).rho = (twos.TT (D.stm i k) && decide (ah (D.stm i k) 9 = (t : Int))) := by
     show ((twos.xM twos.O5).num _ && (decide (_ = (t : Int)) && true)) = _
     rw [show (twos.xM twos.O5).num (fnB w D (made.atS i k) (mI D i t k)).rho = twos.TT (D.stm i k) from zL (made.atS i k) _ rfl, e33, apw]
    rw [eS, n94 (k + 1), sp t, n94 k, n98 k]
    unfold twos.WC
    cases (twos.TT (D.stm i k) && decide (ah (D.stm i k) 9 = (t : Int))) with
    | true => rfl
    | false => show _ = _ + (0 : Int); rw [cond_false]; omega
   ·exact uf ((n96 k).trans (((n95 (k + 1)).trans (sa t)).symm))
 ·have e : twos.ctK D (Ct.at D i) i (D.blk i).st.length = (Ct.at D i).stm (D.blk i).st := by unfold twos.ctK; rw [apA]
  refine bF (apB.1 abh t (apD.2 ht)) (bD (@aW (fnB w D (made.atS i _) (mI D i t _)) _ _ (aT h _ _) (dM h (q := made.atS i _) hi _))) (bJ (made.atS i (D.blk i).st.length) (atB i) rfl _ _) (L := L3) ?_ (aQ D _ _) (fun p hp => by cases hp) (fun u hu => ?_) rfl (bC f bf)
  ·exact ((twos.fE h _ (fit _ (apG _)) _).pin (i := 6) (c := 1) (show b2i (decide ((i : Int) < D.bs.length)) = 1 from (bY _).2 (by omega))).pin (i := 23) (c := 0) (show b2i (decide (((D.blk i).st.length : Int) < (D.blk i).st.length)) = 0 by rw [decide_eq_false (by omega)]; rfl)
  ·simp only [apv, apx, or_false] at hu
   rcases hu with rfl | rfl | rfl
   ·exact uf ((n93 _).trans ((congrArg (fun C : Ct => C.s t) e).trans o96.symm))
   ·exact uf ((n94 _).trans ((congrArg (fun C : Ct => C.p t) e).trans o97.symm))
   ·exact uf ((n95 _).trans ((congrArg (fun C : Ct => C.a t) e).trans o98.symm))
theorem args {i t : Nat} (ht : t < 16) (hi : i < D.bs.length) (hB : D.bs.length <= 1000) (hA : (D.blk i).ops.length <= 1000) (hok : ((D.blk i).ops.all fun el => (aY 0).val el) = true) :
  ∀ K (ok : aG K (fnB w D (atB i) (mO D t i)).rho (fnB w D (atB i) (mO D t i)).sig), @aO ((fnB w D (atB i) (mO D t i)).aH K ok) Tryz.prog (rowA t K) iG := by
 intro K ok
 have fit : ∀ k, k <= (D.blk i).ops.length -> Fits D (made.atM i k) := fun k hk => iD ⟨by show i <= 1000; omega, apz _, by show k <= 1000; omega, apz _⟩
 have okk := (iJ (D.blk i).ops [] fun el => (aY 0).val el).2 hok
 have n77 : ∀ k, (fnB w D (made.atM i k) (mA (D.blk i) t k)).rho 77 = nP (D.blk i) t k := fun k => fQ (D := D) (q := made.atM i k) 0
 have n78 : ∀ k, (fnB w D (made.atM i k) (mA (D.blk i) t k)).rho 78 = nP (D.blk i) t k + 1 := fun k => fQ (D := D) (q := made.atM i k) 1
 have o101 : (fnB w D (atB i) (mO D t i)).rho 101 = aP (D.blk i) t := kQ 8
 refine @dh _ _ (fun k => fnB w D (made.atM i k) (mA (D.blk i) t k)) iG _ _ (hdA t) _ _ (fun e => by cases e) (D.blk i).ops.length (bJ (atB i) (made.atM i 0) rfl _ _) (fun u hu => ?_) (fun k hk => ?_) ?_ 4 K ok
 ·simp only [apv, apx, or_false] at hu
  rcases hu with rfl | rfl
  ·exact dP fun r v hv => hv
  ·exact JM (n77 0)
 ·have hb : 0 <= nP (D.blk i) t k /\ nP (D.blk i) t k <= 1000 := by
   have := sQ (fun op => twos.tH op t) 1 ((D.blk i).ops.take k) fun x _ => gI _
   have hl : ((D.blk i).ops.take k).length <= 1000 := by rw [apI]; omega
   unfold nP
   omega
  refine bF (apB.1 aaA t (apD.2 ht)) (bD (@aW (fnB w D (made.atM i k) (mA (D.blk i) t k)) _ _ (aT h _ _) (@aW (fnB w D (made.atM i k) (mA (D.blk i) t k)) _ _ (dM h (q := made.atM i k) hi _) (Jv h (q := made.atM i k) hi hk _)))) (bJ (made.atM i k) (made.atM i (k + 1)) rfl _ _) (L := LA) ?_ ?_ (fun p hp => ?_) (fun u hu => ?_) rfl (bC fP iG)
  ·exact ((twos.fE h (made.atM i k) (fit k (by omega)) _).pin (i := 6) (c := 1) (show b2i (decide ((i : Int) < D.bs.length)) = 1 from (bY _).2 (by omega))).pin (i := 52) (c := 1) (show b2i (decide ((k : Int) < (D.blk i).ops.length)) = 1 from (bY _).2 (by omega))
  ·refine ⟨fun a c b hm => ?_, (aQ D _ _).xt⟩
   obtain e := apu.1 (show (a, c, b) ∈ [(77, (1 : Int), 78)] from hm)
   cases e
   rw [show aF (aK D (made.atM i k) (mA (D.blk i) t k)) 77 = _ from n77 k, show aF (aK D (made.atM i k) (mA (D.blk i) t k)) 78 = _ from n78 k]
   exact ⟨rfl, by show (-9223372036854775808 : Int) <= _; omega, by show _ <= (9223372036854775807 : Int); omega⟩
  ·obtain rfl := apu.1 hp
   exact (a2q (made.atM i k) _ (e := aY 0) rfl).trans ((E.iR _ _).symm.trans (okk k hk))
  ·simp only [usA, apv, apx, or_false] at hu
   rcases hu with rfl | rfl
   ·exact dP fun r v hv => hv
   ·refine JI ?_
    have e53 : (fnB w D (made.atM i k) (mA (D.blk i) t k)).rho 53 = ah (D.opd i k) 0 := rfl
    have e55 : (fnB w D (made.atM i k) (mA (D.blk i) t k)).rho 55 = ah (D.opd i k) 2 := rfl
    have e56 : (fnB w D (made.atM i k) (mA (D.blk i) t k)).rho 56 = ah (D.opd i k) 3 := rfl
    have e57 : (fnB w D (made.atM i k) (mA (D.blk i) t k)).rho 57 = ah (D.opd i k) 4 := rfl
    have eN : (YD t).num (fnB w D (made.atM i k) (mA (D.blk i) t k)).rho = (twos.F5 (D.opd i k) && decide (ah (D.opd i k) 2 = (t : Int))) := by
     show ((decide (_ = (3 : Int)) && true) && ((decide (_ = (0 : Int)) && true) && ((decide (_ = (0 : Int)) && true) && (decide (_ = (t : Int)) && true)))) = _
     rw [e53, e55, e56, e57, apw, apw, apw, apw]
     exact aoB _ _ _ _
    have sn : nP (D.blk i) t (k + 1) = nP (D.blk i) t k + twos.tH (D.opd i k) t := by unfold nP; rw [qW _ _ [] hk]; rfl
    rw [eN, n77 (k + 1), sn, n77 k, n78 k]
    unfold twos.tH
    cases (twos.F5 (D.opd i k) && decide (ah (D.opd i k) 2 = (t : Int))) with
    | true => rfl
    | false => show _ = _ + (0 : Int); rw [cond_false]; omega
 ·refine bF (apB.1 abf t (apD.2 ht)) (bD (@aW (fnB w D (made.atM i _) (mA (D.blk i) t _)) _ _ (aT h _ _) (dM h (q := made.atM i _) hi _))) (bJ (made.atM i (D.blk i).ops.length) (atB i) rfl _ _) (L := LA0) ?_ (aQ D _ _) (fun p hp => by cases hp) (fun u hu => ?_) rfl (bC fP iG)
  ·exact ((twos.fE h _ (fit _ (apG _)) _).pin (i := 6) (c := 1) (show b2i (decide ((i : Int) < D.bs.length)) = 1 from (bY _).2 (by omega))).pin (i := 52) (c := 0) (show b2i (decide (((D.blk i).ops.length : Int) < (D.blk i).ops.length)) = 0 by rw [decide_eq_false (by omega)]; rfl)
  ·obtain rfl := apu.1 hu
   exact uf ((n77 _).trans ((show nP (D.blk i) t (D.blk i).ops.length = aP (D.blk i) t by unfold nP aP; rw [apA]).trans o101.symm))
end
end onceR
end Go.Proofs.YtglmonlofejcgaaGreatDoor
