/- fnshape.twos, as the machine runs its loops. fnshape.twos, as the machine runs its loops: arguments, blocks, the last one. What twos counts: sums over statements, operands, blocks; locals that are in range. (No run of the program.) -/
import Derived.Test.YtglmonlofejcgaaGreatDoorFn7
set_option linter.unusedVariables false
set_option linter.unusedSectionVars false
set_option maxRecDepth 100000
namespace Go.Proofs.YtglmonlofejcgaaGreatDoor.twos
open Go.RowKit Am
noncomputable def f : FuncId := 34
noncomputable def F : Func := Tryz.f34
noncomputable def fO : FuncId := 98
noncomputable def FO : Func := Tryz.f98
noncomputable def fM : Code := dS F 0
noncomputable def aY : Code := dS F 1
noncomputable def gQ : Code := dS F 2
noncomputable def iy : Code := dS FO 0
noncomputable def on : S := .fn 61 [(2, 0), (3, 0)]
def hpT (a p s i : Nat) : Hp := [(4, ⟨bJ s, true⟩), (3, ⟨bJ p, true⟩), (2, ⟨bJ a, true⟩), (1, ⟨jW i, true⟩), (0, ⟨bQ, true⟩)]
noncomputable def keep : List (Nat × S) := [(1, .ptr 0 0), (2, .ptr 1 0), (4, .ptr 2 0), (5, .ptr 3 0), (6, .ptr 4 0)]
noncomputable def PS : List (Nat × S) := keep ++ [(7, on), (16, .rv 1), (17, .xi .i64 3)]
noncomputable def wQ : List (Nat × S) := PS ++ [(18, .xi .i64 4), (9, .ptr 5 0)]
noncomputable def hpB (a p s i : Nat) : Hp := (5, ⟨kL, true⟩) :: hpT a p s i
noncomputable def hdO : St := ⟨iM F.ntmps (PS ++ [(18, .xi .i64 4)]), ⟨hpT 0 1 2 3, 5⟩⟩
noncomputable def hdI : St := ⟨iM F.ntmps (wQ ++ [(23, .rv 3), (24, .xi .i64 7), (25, .xi .i64 21)]), ⟨hpB 0 1 2 3, 6⟩⟩
noncomputable def sNI : St := ⟨iM F.ntmps wQ, ⟨hpB 4 5 6 7, 6⟩⟩
noncomputable def sNO : St := ⟨iM F.ntmps keep, ⟨hpT 0 1 2 3, 5⟩⟩
def wY : List E := [isE 0 3, .and (.or (isE 0 2) (isE 0 4)) (.not (isE 20 1)), isE 0 1, .and (isE 0 1) (.or (isE 4 4) (isE 4 5)), ands [isE 0 1, .not (.or (isE 4 4) (isE 4 5)), .not (isE 7 1)], ands [isE 0 1, .not (.or (isE 4 1) (.or (isE 4 4) (isE 4 5))), .not (isE 12 1)]]
def je : List Bool -> Nat
 | [f, sa, p, rp, ra, rb] => bif f then 1 else bif sa then 2 else bif p then (bif rp then 4 else bif ra then (bif rb then 6 else 5) else bif rb then 7 else 3) else 0
 | _ => 0
def rowOf (s : Nat) : Nat := bif Nat.beq s 0 then 0 else 3 + s
def KA : E := ands [isE 0 1, isE 4 1, isE 7 3, isE 10 0, isE 11 0]
def I5 : E := ands [isE 0 1, isE 4 4, isE 6 3]
def yA (e : E) : E := e.ren (24 + ·)
def alQ : E := ands [yA I5, isE 26 0, isE 27 0, .not (isE 75 1)]
def trI : List Cnt := [⟨0, 4, 49, 285⟩, ⟨0, 5, 46, 287⟩, ⟨0, 6, 25, 289⟩, ⟨6, 7, 41, 291⟩, ⟨6, 8, 33, 293⟩, ⟨8, 9, 38, 295⟩, ⟨6, 10, 38, 297⟩, ⟨1, 11, 33, 299⟩, ⟨2, 12, 25, 301⟩]
def usI : List Upd := isU (.xi .i64 21) (.xi .i64 22) :: (nG 0 (wY.map yA) (fun bs => rowOf (je bs)) ++ (nG 1 [yA KA] (fun bs => bif bs.headD false then 11 else 1) ++ (nG 2 [alQ] (fun bs => bif bs.headD false then 12 else 2) ++ Yg 3 3 25 (yA I5))))
def a3W (k : Nat) (t : HT) : HT := .by k 1 t (.by k 2 t t)
def ajs : HT := .by 31 1 .leaf (.by 31 2 .leaf (.by 31 3 .leaf (.by 31 4 (.both 34 1 (.both 35 1 .leaf)) .leaf)))
def amq : HT := .by 30 3 .leaf (.by 30 4 (.both 26 1 (.both 27 1 (.both 75 1 .leaf))) .leaf)
def asT : HT := .on 28 1 .leaf (.on 28 2 ajs (.on 28 3 (a3W 31 (a3W 36 .leaf)) (.on 28 4 (a3W 31 (a3W 36 .leaf)) (.on 28 5 amq (.on 28 6 .leaf .leaf)))))
def stT : HT := .on 24 1 .leaf (.on 24 2 asT (.on 24 3 (a3W 44 .leaf) (.on 24 4 .leaf (.on 24 5 (a3W 44 .leaf) .leaf))))
noncomputable def kX (L : Lf) (i : Nat) : Lf := (L.lo i 0).hi i 15
noncomputable def LI (L : Lf) : Lf := kX (kX (kX (kX (kX (kX L 49) 25) 33) 38) 41) 46
noncomputable def L1 : Lf := LI (((Lf.of (fE ++ [])).pin 6 1).pin 23 1)
noncomputable def L3 : Lf := ((Lf.of (fE ++ [])).pin 6 1).pin 23 0
noncomputable def tbI : Tabs := bW.app (iG.app a6p)
theorem jU : aI (dQ (dH gZ tbI aX) f (RY trI) [(a4d, true)] usI ⟨21, 0, 5⟩ aY hdI .normal hdI) stT L1 = true := by kernel_rfl
theorem JU : aI (dQ (dH gZ (bW.app iG) aX) f eu [] (iL 4 0 ++ (iL 5 1 ++ (iL 6 2 ++ kU 7 3))) ⟨21, 0, 5⟩ aY hdI (.exit 2) sNI) .leaf L3 = true := by kernel_rfl
open Go.RowKit Am
noncomputable def hdA : St := ⟨iM FO.ntmps [(1, .bool true), (2, on), (8, .rv 4), (9, .xi .i64 17), (10, .xi .i64 50)], ⟨[(3, ⟨bJ 1, true⟩), (2, ⟨bJ 0, true⟩), (4, ⟨bJ 4, true⟩), (1, ⟨jW 5, true⟩), (0, ⟨bQ, true⟩)], 8⟩⟩
noncomputable def sNA : St := ⟨iM FO.ntmps [], ⟨hpT 10 11 6 7, 8⟩⟩
def trA : List Cnt := [⟨0, 2, 55, 173⟩, ⟨1, 3, 55, 175⟩]
def Et : E := .not (isE 53 1)
def WX : E := ands [isE 53 3, isE 56 0, isE 57 0]
def usA : List Upd := isU (.xi .i64 50) (.xi .i64 51) :: (nG 0 [Et] (fun bs => bif bs.headD false then 2 else 0) ++ (nG 1 [WX] (fun bs => bif bs.headD false then 3 else 1) ++ (iL 4 4 ++ kU 5 5)))
def amc : HT := .by 53 1 .leaf (.by 53 2 .leaf (.by 53 3 .leaf (.by 53 4 (.both 56 1 (.both 57 1 .leaf)) .leaf)))
noncomputable def LA : Lf := kX (((Lf.of (fE ++ [])).pin 6 1).pin 52 1) 55
noncomputable def LA0 : Lf := ((Lf.of (fE ++ [])).pin 6 1).pin 52 0
theorem DC : aI (dQ (dH gZ (bW.app (iG.app ae5)) aX) fO (RY trA) [] usA ⟨21, 0, 5⟩ iy hdA .normal hdA) amc LA = true := by kernel_rfl
theorem MF : aI (dQ (dH gZ (bW.app iG) aX) fO eu [] (iL 10 0 ++ (iL 11 1 ++ (iL 6 4 ++ kU 7 5))) ⟨21, 0, 5⟩ iy hdA (.exit 0) sNA) .leaf LA0 = true := by kernel_rfl
def trO : List Cnt := [⟨4, 8, 11, 269⟩, ⟨4, 9, 18, 271⟩]
def us0 : List Upd := isU (.xi .i64 21) (.int .i64 0) :: (iL 0 0 ++ (iL 1 1 ++ (iL 2 2 ++ kU 3 3)))
def us1 : List Upd := isU (.xi .i64 50) (.int .i64 0) :: (iL 0 9 ++ (iL 1 5 ++ (iL 4 6 ++ kU 5 7)))
noncomputable def mD (K : Know) : Loops := iP 8 ⟨21, 0, 5⟩ (@thU K us0) hdI (.exit 2) sNI
noncomputable def rowA (K : Know) : Loops := iP 2 ⟨21, 0, 5⟩ (@thU K us1) hdA (.exit 0) sNA
noncomputable def a0J (K : Know) : FuncId -> Loops := dP [(f, mD K), (fO, rowA K)]
def brN : E := .and (isE 8 2) (.not (isE 9 1))
def caN : E := isE 8 4
def usO : List Upd := isU (.xi .i64 4) (.xi .i64 5) :: (nG 0 [brN, caN] (fun bs => bif bs.headD false then 8 else bif (bs.drop 1).headD false then 10 else 4) ++ (nG 1 [caN] (fun bs => bif bs.headD false then 11 else 5) ++ (iL 2 6 ++ kU 3 7)))
def outT : HT := .on 8 2 .leaf (.on 8 3 (.by 9 1 .leaf (.by 9 2 .leaf .leaf)) (.on 8 4 .leaf (.on 8 5 .leaf .leaf)))
noncomputable def LO : Lf := kX (kX ((Lf.of (fE ++ [])).pin 6 1) 11) 18
noncomputable def LO0 : Lf := (Lf.of (fE ++ [])).pin 6 0
theorem Kr : aI (dQ (dH gZ (bW.app iG) a0J) f (RY trO) [] usO ⟨4, 0, 3⟩ fM hdO .normal hdO) outT LO = true := by kernel_rfl
theorem Nq : aI (dQ (dH gZ bW aX) f eu [] (iL 0 0 ++ (iL 1 1 ++ (iL 2 2 ++ kU 3 3))) ⟨4, 0, 3⟩ fM hdO (.exit 0) sNO) .leaf LO0 = true := by kernel_rfl
noncomputable def frT : Fr := upd sNO.fr 75 (V.g (jW 3))
noncomputable def hdT (t : Nat) : St := ⟨upd frT 76 (V.s (.int .i64 t)), ⟨hpT 0 1 2 3, 5⟩⟩
noncomputable def sNT : St := ⟨frT, ⟨hpT 0 1 2 3, 5⟩⟩
noncomputable def sRT : St := ⟨upd frT 3 (V.s (.bool false)), ⟨hpT 0 1 2 3, 5⟩⟩
def a0e (t : Nat) : E := imp (isE (nm 3 t) 1) (ands [.lt 0 t, isE (nm 0 t) 2, isE (nm 1 t) 1, isE (nm 2 t) 1])
def ZK (t : Nat) : HT := .by (nm 3 t) 1 .leaf (.by 0 t (.by (nm 0 t) 2 .leaf (.by (nm 0 t) 3 (.by (nm 1 t) 1 .leaf (.by (nm 1 t) 2 (.by (nm 2 t) 1 .leaf (.by (nm 2 t) 2 .leaf .leaf)) .leaf)) .leaf)) .leaf)
def Hy : Int × Int := (-9223372036854775808, 9223372036854775807)
noncomputable def LT : Lf := Lf.of (fE ++ (List.replicate 48 Hy ++ List.replicate 16 ivB))
noncomputable def a7C (t : Nat) : Bool := aI (dQ (dH gZ bW aX) f eu [(a0e t, true)] [] ⟨141, 0, 3⟩ gQ (hdT t) .normal (hdT (t + 1))) (ZK t) LT
noncomputable def akg (t : Nat) : Bool := aI (dQ (dH gZ bW aX) f eu [(a0e t, false)] [] ⟨141, 0, 3⟩ gQ (hdT t) .ret sRT) (ZK t) LT
theorem stepT : ((List.range 16).all a7C) = true := by kernel_rfl
theorem aea : ((List.range 16).all akg) = true := by kernel_rfl
theorem WG : aI (dQ (dH gZ bW aX) f eu [] [] ⟨141, 0, 3⟩ gQ (hdT 16) (.exit 4) sNT) .leaf LT = true := by kernel_rfl
noncomputable def akL (K : Know) : Loops := iP 5 ⟨4, 0, 3⟩ (@thU K (isU (.xi .i64 4) (.int .i64 0) :: (oL 0 ++ (oL 1 ++ (oL 2 ++ DI 3))))) hdO (.exit 0) sNO
noncomputable def rowT (x : X) (s1 : St) (K : Know) : Loops := iP 19 ⟨141, 0, 3⟩ (@thU K []) (hdT 0) x s1
noncomputable def ady (x : X) (s1 : St) (K : Know) : FuncId -> Loops := dP [(f, akL K), (f, rowT x s1 K)]
def akb (r : Bool) : V := .t [.g (jW 3), .s (.bool r)]
theorem al4 : aI (kG (dH gZ bW (ady (.exit 4) sNT)) f eu [] [] (fun _ => akb true) [.g bQ]) .leaf LT = true := by kernel_rfl
theorem ajm : aI (kG (dH gZ bW (ady .ret sRT)) f eu [] [] (fun _ => akb false) [.g bQ]) .leaf LT = true := by kernel_rfl
theorem UU : fH (F.body.getD .skip) 0 5 = true := by kernel_rfl
theorem Rw : fH fM 0 8 = true := by kernel_rfl
theorem Ep : fH (F.body.getD .skip) 1 8 = true := by kernel_rfl
theorem adJ : fH (F.body.getD .skip) 2 19 = true := by kernel_rfl
theorem RX : fH (FO.body.getD .skip) 0 2 = true := by kernel_rfl
end Go.Proofs.YtglmonlofejcgaaGreatDoor.twos
namespace Go.Proofs.YtglmonlofejcgaaGreatDoor.Am
open Go.RowKit
def acc {α : Type} (f : α -> Int) : List α -> Int
 | [] => 0
 | x :: r => f x + acc f r
theorem Zr {α : Type} (f : α -> Int) : ∀ a b : List α, acc f (a ++ b) = acc f a + acc f b
 | [], b => by simp [acc]
 | x :: a, b => by rw [List.cons_append, acc, acc, Zr f a b]; omega
theorem pY {α : Type} (f : α -> Int) (l : List α) (d : α) {k : Nat} (hk : k < l.length) : acc f (l.take (k + 1)) = acc f (l.take k) + f (l.getD k d) := by
 rw [List.take_succ_eq_append_getElem hk, Zr, List.getD_eq_getElem?_getD, List.getElem?_eq_getElem hk]
 simp [acc]
theorem rD {α : Type} (f : α -> Int) (c : Nat) : ∀ l : List α, (∀ x ∈ l, 0 <= f x /\ f x <= c) -> 0 <= acc f l /\ acc f l <= ((c * l.length : Nat) : Int)
 | [], _ => by simp [acc]
 | x :: r, h => by
  obtain ⟨h1, h2⟩ := h x (by simp)
  obtain ⟨h3, h4⟩ := rD f c r fun y hy => h y (by simp [hy])
  rw [acc, List.length_cons, Nat.mul_succ]
  omega
theorem iY (b : Bool) : 0 <= b2i b /\ b2i b <= 1 := by cases b <;> decide
def cnt (ls : List Int) (j : Nat) : Int := acc (fun l => b2i (decide (l = (j : Int)))) ls
theorem Cc {F : Nat -> Int} {l : Int} {M : Int} (h : ∀ j, 0 <= F j /\ F j <= M) : ∀ j, 0 <= bump F l j /\ bump F l j <= M + 1 := fun j => by
 have := h j
 have := iY (decide (l = (j : Int)))
 unfold bump
 omega
theorem jD {D : FnD} {q : At} {fs : List (Nat -> Int)} {tail : List Int} {t : Cnt} {n N : Nat} {F : Nat -> Int} (hn : fs.length = N) (h1 : fs[t.src]? = some F) (h2 : fs[t.dst]? = some (bump F (aF (aJ D q (bU fs ++ tail)) t.l))) (hm : t.m = 77 + (16 * N + n))
  (e0 : aF tail n = F (aF (aJ D q (bU fs ++ tail)) t.l).toNat) (e1 : aF tail (n + 1) = F (aF (aJ D q (bU fs ++ tail)) t.l).toNat + 1) {M : Int} (hb : ∀ j, 0 <= F j /\ F j <= M) (hM : M <= 1000000) : a8K (aF (aJ D q (bU fs ++ tail))) t := by
 have m0 : aF (aJ D q (bU fs ++ tail)) t.m = F (aF (aJ D q (bU fs ++ tail)) t.l).toNat := by rw [hm, CY hn, e0]
 have m1 : aF (aJ D q (bU fs ++ tail)) (t.m + 1) = F (aF (aJ D q (bU fs ++ tail)) t.l).toNat + 1 := by
  rw [hm, show 77 + (16 * N + n) + 1 = 77 + (16 * N + (n + 1)) by omega, CY hn, e1]
 have hb := hb (aF (aJ D q (bU fs ++ tail)) t.l).toNat
 exact ⟨⟨F, fun j hj => gI h1 hj, fun j hj => gI h2 hj, m0, by rw [m1, m0]⟩, by rw [m1]; omega, by rw [m1]; omega⟩
noncomputable def noT (giv : List (E × Bool)) (L : Lf) : Bool := @KU (L.jd ⟨[], vG.nought⟩) giv
theorem cannot {giv : List (E × Bool)} {t : HT} {L0 : Lf} {rho : Nat -> Int} (h : aI (noT giv) t L0 = true) (h0 : L0.Holds rho (fun _ => [])) (hg : ∀ p ∈ giv, p.1.num rho = p.2) : False := by
 obtain ⟨L, hL, ht⟩ := nT h h0
 have ok : aG (L.jd ⟨[], vG.nought⟩) rho (fun _ => []) := Lf.okX hL ⟨fun _ _ _ h => (by cases h), um.nought _⟩
 let b : Base := Base.known (L.jd ⟨[], vG.nought⟩) ok 0 default
 have := @Eh b giv hg
 unfold noT at ht
 rw [show @KU (L.jd ⟨[], vG.nought⟩) giv = false from this] at ht
 cases ht
theorem ajE {k : Kd} {v : Value} (h : k.ok v) (hk : k ≠ .s) : -9223372036854775808 <= aY v /\ aY v <= 18446744073709551615 := by
 cases k with
 | s => exact absurd rfl hk
 | b => obtain ⟨b, rfl⟩ := h; cases b <;> decide
 | i k =>
  obtain ⟨n, rfl, h1, h2⟩ := h
  have : -9223372036854775808 <= k.min /\ k.max <= 18446744073709551615 := by cases k <;> decide
  show -9223372036854775808 <= n /\ n <= _
  omega
def ivU (n : Nat) : List (Int × Int) := List.replicate n (-9223372036854775808, 18446744073709551615)
theorem KT {n : Nat} {ks : List Kd} {us : List Value} (h : ak Kd.ok ks us) (hs : (ks.all fun k => match k with | .s => false | _ => true) = true) : (Lf.of (ivU n)).Holds (ah us) (fun _ => []) :=
 Lf.af6 fun i p hp => by
  have hi := (List.getElem?_eq_some_iff.1 hp).1
  rw [ivU, List.length_replicate] at hi
  unfold ivU at hp
  rw [List.getElem?_replicate, if_pos hi] at hp
  cases hp
  cases hu : us[i]? with
  | none => unfold ah; rw [hu]; exact ⟨by decide, by decide⟩
  | some u =>
   have hl := h.len
   have hlt := (List.getElem?_eq_some_iff.1 hu).1
   obtain ⟨u', hu', ok⟩ := ak.nth h (n := i) (x := ks[i]'(by omega)) (by rw [aK]; exact List.getElem?_eq_getElem _)
   rw [hu] at hu'
   cases hu'
   unfold ah
   rw [hu]
   refine ajE ok fun e => ?_
   have := List.all_eq_true.1 hs (ks[i]'(by omega)) (List.getElem_mem _)
   rw [e] at this
   cases this
noncomputable def a0Q (e : E) (n c : Nat) : Bool := aI (noT [(e, true)]) .leaf ((Lf.of (ivU n)).lo c 16) && aI (noT [(e, true)]) .leaf ((Lf.of (ivU n)).hi c (-1))
theorem Uj {e : E} {n c : Nat} (hr : a0Q e n c = true) {ks : List Kd} {us : List Value} (h : ak Kd.ok ks us) (hs : (ks.all fun k => match k with | .s => false | _ => true) = true) (hv : e.num (ah us) = true) : 0 <= ah us c /\ ah us c <= 15 := by
 unfold a0Q at hr
 rw [Bool.and_eq_true] at hr
 have hg : ∀ p ∈ [(e, true)], p.1.num (ah us) = p.2 := fun p hp => by obtain rfl := List.mem_singleton.1 hp; exact hv
 constructor
 ·apply Decidable.byContradiction
  intro hc
  exact cannot hr.2 ((KT h hs).hi (by omega)) hg
 ·apply Decidable.byContradiction
  intro hc
  exact cannot hr.1 ((KT h hs).lo (by omega)) hg
theorem al9 : ([25, 1, 9, 14, 17, 22].all (a0Q dJ 26)) = true := by kernel_rfl
theorem Ee {st : List Value} (h : ak Kd.ok Dj st) (hv : dJ.val st = true) {c : Nat} (hc : c ∈ [25, 1, 9, 14, 17, 22]) : 0 <= ah st c /\ ah st c <= 15 :=
 Uj (List.all_eq_true.1 al9 c hc) h rfl ((E.jh _ _).symm.trans hv)
theorem akT : a0Q (bn 0) 5 2 = true := by kernel_rfl
theorem Jm {op : List Value} (h : ak Kd.ok opK op) (hv : (bn 0).val op = true) : 0 <= ah op 2 /\ ah op 2 <= 15 := Uj akT h rfl ((E.jh _ _).symm.trans hv)
def ak1 (a b : E) : E := .or (.and a b) (.and (.not a) (.not b))
def jmG : List (E × Bool) := [(a3b, true), (ak1 (isE 14 1) (bn 1), true), (ak1 (isE 15 1) (fU 10), true)]
def jmT : HT := .both 14 1 (.both 14 2 (.both 15 1 (.both 15 2 .leaf)))
noncomputable def U7 (L : Lf) : Bool := aI (noT jmG) jmT L
theorem alW : (U7 ((Lf.of (ivU 16)).lo 3 16) && (U7 ((Lf.of (ivU 16)).hi 3 (-1)) && (U7 ((Lf.of (ivU 16)).lo 10 16) && U7 ((Lf.of (ivU 16)).hi 10 (-1))))) = true := by kernel_rfl
theorem alV : U7 (((Lf.of (ivU 16)).pin 13 0).lo 9 1) = true := by kernel_rfl
theorem EC {a b : E} {rho : Nat -> Int} (h : a.num rho = b.num rho) : (ak1 a b).num rho = true := by
 show ((a.num rho && b.num rho) || (!a.num rho && !b.num rho)) = true
 rw [h]
 cases b.num rho <;> rfl
theorem DX {w : World} {v : Value} {pre : List Value} {sv : Value} {post : List Value} {els : List (List Value)} (hj : eU w v pre sv post els) (h : okJ pre els post = true) :
  (0 <= ah pre 3 /\ ah pre 3 <= 15) /\ (0 <= ah post 0 /\ ah post 0 <= 15) /\ ((els.all fun el => (bn 0).val el) = true \/ els.length = 0) := by
 have hl := iI hj
 have lp := iD hj
 let us : List Value := aW pre els post ++ (lX pre els post).map (Value.int .i64)
 have hk : ak Kd.ok (kJ ++ [.i .i64, .i .i64, .i .i64]) us := (qP hj).app ⟨⟨_, rfl, by have := iY (els.all fun el => (bn 0).val el); show (-9223372036854775808 : Int) <= _; omega, by have := iY (els.all fun el => (bn 0).val el); show _ <= (9223372036854775807 : Int); omega⟩, ⟨_, rfl, by have := iY ((bn 1).val (aW pre els post)); show (-9223372036854775808 : Int) <= _; omega, by have := iY ((bn 1).val (aW pre els post)); show _ <= (9223372036854775807 : Int); omega⟩, ⟨_, rfl, by have := iY ((fU 10).val (aW pre els post)); show (-9223372036854775808 : Int) <= _; omega, by have := iY ((fU 10).val (aW pre els post)); show _ <= (9223372036854775807 : Int); omega⟩, trivial⟩
 have h0 : (Lf.of (ivU 16)).Holds (ah us) (fun _ => []) := KT hk rfl
 have ea : ∀ i, i < 13 -> ah us i = ah (aW pre els post) i := fun i hi => jQ (by omega)
 have eb : ∀ j m, (lX pre els post)[j]? = some m -> ah us (13 + j) = m := fun j m hm => by
  show ah (aW pre els post ++ _) _ = _
  rw [kH hl]
  unfold ah
  rw [List.getElem?_map, hm]
  rfl
 have e13 : ah us 13 = b2i (els.all fun el => (bn 0).val el) := eb 0 _ rfl
 have e14 : ah us 14 = b2i ((bn 1).val (aW pre els post)) := eb 1 _ rfl
 have e15 : ah us 15 = b2i ((fU 10).val (aW pre els post)) := eb 2 _ rfl
 have sm : ∀ e : E, e.bd 13 = true -> e.num (ah us) = e.val (aW pre els post) := fun e he => by
  rw [E.jh]
  exact (E.jY (f := fun i => i) he ea ▸ by
   congr 1
   clear he
   induction e with
   | lt i c => rfl
   | zero l => simp [E.ren]
   | and a b ha hb => rw [E.ren, <- ha, <- hb]
   | or a b ha hb => rw [E.ren, <- ha, <- hb]
   | not a ha => rw [E.ren, <- ha])
 have one : ∀ i c, (isE i c).num (ah us) = decide (ah us i = c) := fun i c => by show (decide _ && true) = _; rw [Bool.and_true]
 have hg : ∀ p ∈ jmG, p.1.num (ah us) = p.2 := fun p hp => by
  simp only [jmG, List.mem_cons, List.not_mem_nil, or_false] at hp
  rcases hp with rfl | rfl | rfl
  ·unfold okJ at h
   rw [E.jh] at h
   exact h
  ·refine EC ?_
   rw [one, e14, made.fK, sm _ rfl]
  ·refine EC ?_
   rw [one, e15, made.fK, sm _ rfl]
 have c3 : ah us 3 = ah pre 3 := (ea 3 (by decide)).trans (by unfold aW; exact jQ (by omega))
 have c10 : ah us 10 = ah post 0 := (ea 10 (by decide)).trans (by
  unfold aW
  rw [show 10 = 9 + 1 from rfl, kH lp]
  rfl)
 have c9 : ah us 9 = els.length := (ea 9 (by decide)).trans (iU hj)
 have r1 := alW
 simp only [Bool.and_eq_true] at r1
 obtain ⟨r1, r2, r3, r4⟩ := r1
 refine ⟨⟨?_, ?_⟩, ⟨?_, ?_⟩, ?_⟩
 ·apply Decidable.byContradiction; intro hc; exact cannot r2 (h0.hi (by omega)) hg
 ·apply Decidable.byContradiction; intro hc; exact cannot r1 (h0.lo (by omega)) hg
 ·apply Decidable.byContradiction; intro hc; exact cannot r4 (h0.hi (by omega)) hg
 ·apply Decidable.byContradiction; intro hc; exact cannot r3 (h0.lo (by omega)) hg
 ·cases hb : (els.all fun el => (bn 0).val el) with
  | true => exact .inl rfl
  | false =>
   refine .inr (Decidable.byContradiction fun hc => ?_)
   rw [hb] at e13
   exact cannot alV ((h0.pin (i := 13) (c := 0) e13).lo (i := 9) (c := 1) (by rw [c9]; omega)) hg
end Go.Proofs.YtglmonlofejcgaaGreatDoor.Am
