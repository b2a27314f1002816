/- Places, operands, rvalues: which are valid; the program's and the reference's answers by that test. -/
import Derived.Test.YtglmonlofejcgaaGreatDoorJump1
set_option maxRecDepth 100000
noncomputable section
open List renaming all_append → apu
open Bool renaming and_self → apv
namespace Go.Proofs.YtglmonlofejcgaaGreatDoor
namespace Am
open Go.RowKit
def E.ands : List E -> E
 | [] => .zero []
 | [e] => e
 | e :: r => .and e (E.ands r)
def zs (o n : Nat) : List (Nat × Int) := (List.range n).map fun i => (o + i, 0)
def dS (o : Nat) : E := .ands [.not (.lt o 0), .lt o 16, .lt (o + 2) 3]
def aY (o : Nat) : E := .or (.and (.zero [(o, 1)]) (.zero (zs (o + 2) 3))) (.ands [.or (.zero [(o, 2)]) (.zero [(o, 3)]), .zero [(o + 1, 0)], dS (o + 2)])
def nM (o : Nat) : E :=
 .or (.ands [.zero [(o, 1)], aY (o + 3), .zero (zs (o + 8) 5), .zero (zs (o + 13) 3), .zero [(o + 1, 0)], .zero [(o + 2, 0)]])
 (.or (.ands [.zero [(o, 2)], aY (o + 3), aY (o + 8), .zero (zs (o + 13) 3), .not (.lt (o + 1) 1), .lt (o + 1) 7, .zero [(o + 2, 0)]])
 (.or (.ands [.zero [(o, 3)], aY (o + 3), aY (o + 8), .zero (zs (o + 13) 3), .zero [(o + 1, 0)], .zero [(o + 2, 0)]])
 (.or (.ands [.zero [(o, 4)], .zero (zs (o + 3) 5), .zero (zs (o + 8) 5), dS (o + 13), .zero [(o + 1, 0)], .not (.lt (o + 2) 1), .lt (o + 2) 4])
 (.ands [.zero [(o, 5)], .zero (zs (o + 3) 5), .zero (zs (o + 8) 5), dS (o + 13), .zero [(o + 1, 0)], .zero [(o + 2, 0)]]))))
abbrev kPl : List Kd := [.i .i64, .b, .i .u8]
abbrev kOp : List Kd := .i .u8 :: .i .i64 :: kPl
abbrev kRv : List Kd := .i .u8 :: .i .u8 :: .i .u8 :: (kOp ++ (kOp ++ kPl))
def v8 (b : Bool) : Value := .int .i64 (bif b then 0 else 8)
def m8 (b : Bool) : V := V.s (.int .i64 (bif b then 0 else 8))
def mB (b : Bool) : V := V.s (.bool b)
theorem I5 (b0 : Base) (r : Ren) (b : Bool) (u : Value) (h : @VV b0 r (m8 b) u) : u = v8 b := h
theorem afl (b0 : Base) (r : Ren) (b : Bool) (u : Value) (h : @VV b0 r (mB b) u) : u = .bool b := h
abbrev Ad : World -> Prop := fun _ => True
section
variable {F : FuncId} {ks : List Kd} {e : E} {val : Bool -> Value}
theorem o9 {mk : Bool -> V} (hmk : ∀ (b0 : Base) r b u, @VV b0 r (mk b) u -> u = val b) (lib : Lf -> aS)
  (hl : ∀ (L : Lf) {rho : Nat -> Int} {sig : Nat -> List UInt8} (h : L.Holds rho sig) (k : Lens (fD 0 ks) rho sig), @Sound (uJ default (Lf.ok h k)) Tryz.prog (lib L)) {sp : Sp}
  (hrun : ((sp.leaves (Lf.start [(true, ks)])).all fun L => ou e mk ks L (@runs (L.know (fD 0 ks)) (mY Tryz.prog) (nC Tryz.prog) (lib L) 30 15 F [.g ((bV 0 ks).map L.nS)] ⟨[], 0⟩ 0)) = true) : Tests Tryz.prog Ad F ks e val :=
 fun us hk w _ => adO (nb := 0) (w0 := default) (fun L => @runs (L.know (fD 0 ks)) (mY Tryz.prog) (nC Tryz.prog) (lib L) 30 15) mk hmk
  (fun L {rho sig} h k d => @su default _ rho sig (Lf.ok h k) _ (hl L h k) 30 15) hrun us hk w ⟨Nat.zero_le _, fun _ h => by cases h⟩
def tO (F : FuncId) (ks : List Kd) (e : E) (mk : Bool -> V) (K : Know) : aS := qE F (@a8J K ks e mk)
theorem jQ (b : Base) (hc : dG Tryz.prog F) (h : Tests Tryz.prog Ad F ks e v8) : @Sound b Tryz.prog (tO F ks e m8 b.toKnow) := @PI b Tryz.prog Ad F hc ks e v8 h (fun _ _ => trivial) m8 (fun _ _ => rfl)
theorem Y4 (b : Base) (hc : dG Tryz.prog F) (h : Tests Tryz.prog Ad F ks e .bool) : @Sound b Tryz.prog (tO F ks e mB b.toKnow) := @PI b Tryz.prog Ad F hc ks e .bool h (fun _ _ => trivial) mB (fun _ _ => rfl)
end
def aos : Lf := Lf.start [(true, kPl)]
def ajT : Sp := (.cut 0 0 .leaf (.cut 0 16 (.cut 2 3 .leaf .leaf) .leaf))
def ah6 (L : Lf) : Bool := ou (dS 0) m8 kPl L (@runs (L.know (fD 0 kPl)) (mY Tryz.prog) (nC Tryz.prog) (nN) 30 15 95 [.g ((bV 0 kPl).map L.nS)] ⟨[], 0⟩ 0)
theorem akp : (ajT.leaves aos).all ah6 = true := by kernel_rfl
theorem uj : Tests Tryz.prog Ad 95 kPl (dS 0) v8 := o9 I5 (fun _ => nN) (fun _ {_ _} h k => mV (Lf.ok h k)) (sp := ajT) akp
def aec (L : Lf) : Bool := ou (dS 0) m8 kPl L (@runs (L.know (fD 0 kPl)) (mY Tryz.prog) (nC Tryz.prog) (nN) 30 15 127 [.g ((bV 0 kPl).map L.nS)] ⟨[], 0⟩ 0)
theorem aiT : (ajT.leaves aos).all aec = true := by kernel_rfl
theorem zX : Tests Tryz.prog Ad 127 kPl (dS 0) v8 := o9 I5 (fun _ => nN) (fun _ {_ _} h k => mV (Lf.ok h k)) (sp := ajT) aiT
def anY : Lf := Lf.start [(true, kOp)]
def ajm : Sp := (.cut 0 1 .leaf (.cut 0 2 (.conj [(2, 0), (3, 0), (4, 0)] .leaf .leaf) (.cut 0 3 (.cut 1 0 .leaf (.cut 1 1 (.cut 2 0 .leaf (.cut 2 16 (.cut 4 3 .leaf .leaf) .leaf)) .leaf)) (.cut 0 4 (.cut 1 0 .leaf (.cut 1 1 (.cut 2 0 .leaf (.cut 2 16 (.cut 4 3 .leaf .leaf) .leaf)) .leaf)) .leaf))))
def adl (L : Lf) : Bool := ou (aY 0) m8 kOp L (@runs (L.know (fD 0 kOp)) (mY Tryz.prog) (nC Tryz.prog) (nN) 30 15 97 [.g ((bV 0 kOp).map L.nS)] ⟨[], 0⟩ 0)
theorem ak5 : (ajm.leaves anY).all adl = true := by kernel_rfl
theorem uK : Tests Tryz.prog Ad 97 kOp (aY 0) v8 := o9 I5 (fun _ => nN) (fun _ {_ _} h k => mV (Lf.ok h k)) (sp := ajm) ak5
def aa6 (L : Lf) : Bool := ou (aY 0) m8 kOp L (@runs (L.know (fD 0 kOp)) (mY Tryz.prog) (nC Tryz.prog) (nN) 30 15 129 [.g ((bV 0 kOp).map L.nS)] ⟨[], 0⟩ 0)
theorem aje : (ajm.leaves anY).all aa6 = true := by kernel_rfl
theorem uh : Tests Tryz.prog Ad 129 kOp (aY 0) v8 := o9 I5 (fun _ => nN) (fun _ {_ _} h k => mV (Lf.ok h k)) (sp := ajm) aje
def low4 (K : Know) : aS := fun f a h fl => orR (tO 95 kPl (dS 0) m8 K f a h fl) ( orR (tO 127 kPl (dS 0) m8 K f a h fl) ( orR (tO 97 kOp (aY 0) m8 K f a h fl) (tO 129 kOp (aY 0) m8 K f a h fl)))
theorem CX (b : Base) : @Sound b Tryz.prog (low4 b.toKnow) := @dZ b _ _ _ (jQ b ⟨_, Tryz.func95, by kernel_rfl, by kernel_rfl⟩ uj) ( @dZ b _ _ _ (jQ b ⟨_, Tryz.func127, by kernel_rfl, by kernel_rfl⟩ zX) ( @dZ b _ _ _ (jQ b ⟨_, Tryz.func97, by kernel_rfl, by kernel_rfl⟩ uK) (jQ b ⟨_, Tryz.func129, by kernel_rfl, by kernel_rfl⟩ uh)))
def Xu : Lf := Lf.start [(true, kRv)]
def a4A : Lf := (Xu.hi 0 (1 - 1))
def a1f : Sp := .leaf
def Nw : Lf := (Xu.lo 0 1)
def LH : Lf := (Nw.hi 0 (2 - 1))
def a5x : Lf := (LH.hi 3 (1 - 1))
def a0v : Sp := .leaf
def O6 : Lf := (LH.lo 3 1)
def a7k : Lf := (O6.hi 3 (2 - 1))
def a0P : Sp := (.conj [(5, 0), (6, 0), (7, 0)] (.conj [(1, 0), (2, 0), (8, 0), (9, 0), (10, 0), (11, 0), (12, 0), (13, 0), (14, 0), (15, 0)] .leaf (.conj [(8, 0), (9, 0), (10, 0), (11, 0), (12, 0)] (.conj [(1, 0), (2, 0), (13, 0), (14, 0), (15, 0)] .leaf (.conj [(13, 0), (14, 0), (15, 0)] (.conj [(1, 0), (2, 0)] .leaf (.cut 1 1 (.cut 2 1 .leaf .leaf) .leaf)) .leaf)) .leaf)) .leaf)
def OZ : Lf := (O6.lo 3 2)
def a7X : Lf := (OZ.hi 3 (3 - 1))
def Zt : Sp := (.cut 4 0 .leaf (.cut 4 1 (.cut 5 0 .leaf (.cut 5 16 (.cut 7 3 (.conj [(1, 0), (2, 0), (8, 0), (9, 0), (10, 0), (11, 0), (12, 0), (13, 0), (14, 0), (15, 0)] .leaf (.conj [(8, 0), (9, 0), (10, 0), (11, 0), (12, 0)] (.conj [(1, 0), (2, 0), (13, 0), (14, 0), (15, 0)] .leaf (.conj [(13, 0), (14, 0), (15, 0)] (.conj [(1, 0), (2, 0)] .leaf (.cut 1 1 (.cut 2 1 .leaf .leaf) .leaf)) .leaf)) .leaf)) .leaf) .leaf)) .leaf))
def a7Z : Lf := (OZ.lo 3 3)
def ZB : Sp := (.cut 3 4 (.cut 4 0 .leaf (.cut 4 1 (.cut 5 0 .leaf (.cut 5 16 (.cut 7 3 (.conj [(1, 0), (2, 0), (8, 0), (9, 0), (10, 0), (11, 0), (12, 0), (13, 0), (14, 0), (15, 0)] .leaf (.conj [(8, 0), (9, 0), (10, 0), (11, 0), (12, 0)] (.conj [(1, 0), (2, 0), (13, 0), (14, 0), (15, 0)] .leaf (.conj [(13, 0), (14, 0), (15, 0)] (.conj [(1, 0), (2, 0)] .leaf (.cut 1 1 (.cut 2 1 .leaf .leaf) .leaf)) .leaf)) .leaf)) .leaf) .leaf)) .leaf)) .leaf)
def PZ : Sp := .cut 3 3 Zt ZB
def Ql : Sp := .cut 3 2 a0P PZ
def Qb : Sp := .cut 3 1 a0v Ql
def wY : Lf := (Nw.lo 0 2)
def wP : Lf := (wY.hi 0 (3 - 1))
def SY : Lf := (wP.hi 3 (1 - 1))
def KO : Sp := .leaf
def yF : Lf := (wP.lo 3 1)
def wC : Lf := (yF.hi 3 (2 - 1))
def yE : Lf := (wC.all [(5, 0), (6, 0), (7, 0)])
def QM : Lf := (yE.hi 8 (1 - 1))
def MP : Sp := .leaf
def xk : Lf := (yE.lo 8 1)
def Tv : Lf := (xk.hi 8 (2 - 1))
def OL : Sp := (.conj [(10, 0), (11, 0), (12, 0)] (.cut 1 1 (.conj [(13, 0), (14, 0), (15, 0)] .leaf .leaf) (.cut 1 7 (.conj [(2, 0), (13, 0), (14, 0), (15, 0)] .leaf (.conj [(13, 0), (14, 0), (15, 0)] (.cut 2 1 .leaf .leaf) .leaf)) (.conj [(13, 0), (14, 0), (15, 0)] .leaf .leaf))) .leaf)
def yK : Lf := (xk.lo 8 2)
def Rj : Lf := (yK.hi 8 (3 - 1))
def KT : Sp := (.cut 9 0 .leaf (.cut 9 1 (.cut 10 0 .leaf (.cut 10 16 (.cut 12 3 (.cut 1 1 (.conj [(13, 0), (14, 0), (15, 0)] .leaf .leaf) (.cut 1 7 (.conj [(2, 0), (13, 0), (14, 0), (15, 0)] .leaf (.conj [(13, 0), (14, 0), (15, 0)] (.cut 2 1 .leaf .leaf) .leaf)) (.conj [(13, 0), (14, 0), (15, 0)] .leaf .leaf))) .leaf) .leaf)) .leaf))
def TW : Lf := (yK.lo 8 3)
def NT : Sp := (.cut 8 4 (.cut 9 0 .leaf (.cut 9 1 (.cut 10 0 .leaf (.cut 10 16 (.cut 12 3 (.cut 1 1 (.conj [(13, 0), (14, 0), (15, 0)] .leaf .leaf) (.cut 1 7 (.conj [(2, 0), (13, 0), (14, 0), (15, 0)] .leaf (.conj [(13, 0), (14, 0), (15, 0)] (.cut 2 1 .leaf .leaf) .leaf)) (.conj [(13, 0), (14, 0), (15, 0)] .leaf .leaf))) .leaf) .leaf)) .leaf)) .leaf)
def Ae : Sp := .cut 8 3 KT NT
def Cc : Sp := .cut 8 2 OL Ae
def BQ : Sp := .cut 8 1 MP Cc
def Tt : Lf := { wC with cf := [(5, 0), (6, 0), (7, 0)] :: wC.cf }
def OT : Sp := .leaf
def Bf : Sp := .conj [(5, 0), (6, 0), (7, 0)] BQ OT
def yJ : Lf := (yF.lo 3 2)
def zi : Lf := (yJ.hi 3 (3 - 1))
def Tf : Lf := (zi.hi 4 (0 - 1))
def KA : Sp := .leaf
def yj : Lf := (zi.lo 4 0)
def zh : Lf := (yj.hi 4 (1 - 1))
def U6 : Lf := (zh.hi 5 (0 - 1))
def OQ : Sp := .leaf
def yM : Lf := (zh.lo 5 0)
def yN : Lf := (yM.hi 5 (16 - 1))
def yg : Lf := (yN.hi 7 (3 - 1))
def Qz : Lf := (yg.hi 8 (1 - 1))
def L9 : Sp := .leaf
def wR : Lf := (yg.lo 8 1)
def U3 : Lf := (wR.hi 8 (2 - 1))
def Pj : Sp := (.conj [(10, 0), (11, 0), (12, 0)] (.cut 1 1 (.conj [(13, 0), (14, 0), (15, 0)] .leaf .leaf) (.cut 1 7 (.conj [(2, 0), (13, 0), (14, 0), (15, 0)] .leaf (.conj [(13, 0), (14, 0), (15, 0)] (.cut 2 1 .leaf .leaf) .leaf)) (.conj [(13, 0), (14, 0), (15, 0)] .leaf .leaf))) .leaf)
def yx : Lf := (wR.lo 8 2)
def SV : Lf := (yx.hi 8 (3 - 1))
def Lp : Sp := (.cut 9 0 .leaf (.cut 9 1 (.cut 10 0 .leaf (.cut 10 16 (.cut 12 3 (.cut 1 1 (.conj [(13, 0), (14, 0), (15, 0)] .leaf .leaf) (.cut 1 7 (.conj [(2, 0), (13, 0), (14, 0), (15, 0)] .leaf (.conj [(13, 0), (14, 0), (15, 0)] (.cut 2 1 .leaf .leaf) .leaf)) (.conj [(13, 0), (14, 0), (15, 0)] .leaf .leaf))) .leaf) .leaf)) .leaf))
def RZ : Lf := (yx.lo 8 3)
def O9 : Sp := (.cut 8 4 (.cut 9 0 .leaf (.cut 9 1 (.cut 10 0 .leaf (.cut 10 16 (.cut 12 3 (.cut 1 1 (.conj [(13, 0), (14, 0), (15, 0)] .leaf .leaf) (.cut 1 7 (.conj [(2, 0), (13, 0), (14, 0), (15, 0)] .leaf (.conj [(13, 0), (14, 0), (15, 0)] (.cut 2 1 .leaf .leaf) .leaf)) (.conj [(13, 0), (14, 0), (15, 0)] .leaf .leaf))) .leaf) .leaf)) .leaf)) .leaf)
def AZ : Sp := .cut 8 3 Lp O9
def BZ : Sp := .cut 8 2 Pj AZ
def BH : Sp := .cut 8 1 L9 BZ
def QU : Lf := (yN.lo 7 3)
def NG : Sp := .leaf
def BF : Sp := .cut 7 3 BH NG
def TM : Lf := (yM.lo 5 16)
def P8 : Sp := .leaf
def BL : Sp := .cut 5 16 BF P8
def BR : Sp := .cut 5 0 OQ BL
def Sr : Lf := (yj.lo 4 1)
def PK : Sp := .leaf
def Ap : Sp := .cut 4 1 BR PK
def BP : Sp := .cut 4 0 KA Ap
def y8 : Lf := (yJ.lo 3 3)
def wX : Lf := (y8.hi 3 (4 - 1))
def TK : Lf := (wX.hi 4 (0 - 1))
def MF : Sp := .leaf
def yC : Lf := (wX.lo 4 0)
def yD : Lf := (yC.hi 4 (1 - 1))
def QO : Lf := (yD.hi 5 (0 - 1))
def Ny : Sp := .leaf
def xE : Lf := (yD.lo 5 0)
def yX : Lf := (xE.hi 5 (16 - 1))
def yQ : Lf := (yX.hi 7 (3 - 1))
def TJ : Lf := (yQ.hi 8 (1 - 1))
def Lu : Sp := .leaf
def wK : Lf := (yQ.lo 8 1)
def QX : Lf := (wK.hi 8 (2 - 1))
def Og : Sp := (.conj [(10, 0), (11, 0), (12, 0)] (.cut 1 1 (.conj [(13, 0), (14, 0), (15, 0)] .leaf .leaf) (.cut 1 7 (.conj [(2, 0), (13, 0), (14, 0), (15, 0)] .leaf (.conj [(13, 0), (14, 0), (15, 0)] (.cut 2 1 .leaf .leaf) .leaf)) (.conj [(13, 0), (14, 0), (15, 0)] .leaf .leaf))) .leaf)
def zk : Lf := (wK.lo 8 2)
def QN : Lf := (zk.hi 8 (3 - 1))
def Lj : Sp := (.cut 9 0 .leaf (.cut 9 1 (.cut 10 0 .leaf (.cut 10 16 (.cut 12 3 (.cut 1 1 (.conj [(13, 0), (14, 0), (15, 0)] .leaf .leaf) (.cut 1 7 (.conj [(2, 0), (13, 0), (14, 0), (15, 0)] .leaf (.conj [(13, 0), (14, 0), (15, 0)] (.cut 2 1 .leaf .leaf) .leaf)) (.conj [(13, 0), (14, 0), (15, 0)] .leaf .leaf))) .leaf) .leaf)) .leaf))
def U1 : Lf := (zk.lo 8 3)
def PU : Sp := (.cut 8 4 (.cut 9 0 .leaf (.cut 9 1 (.cut 10 0 .leaf (.cut 10 16 (.cut 12 3 (.cut 1 1 (.conj [(13, 0), (14, 0), (15, 0)] .leaf .leaf) (.cut 1 7 (.conj [(2, 0), (13, 0), (14, 0), (15, 0)] .leaf (.conj [(13, 0), (14, 0), (15, 0)] (.cut 2 1 .leaf .leaf) .leaf)) (.conj [(13, 0), (14, 0), (15, 0)] .leaf .leaf))) .leaf) .leaf)) .leaf)) .leaf)
def Bq : Sp := .cut 8 3 Lj PU
def Aj : Sp := .cut 8 2 Og Bq
def BJ : Sp := .cut 8 1 Lu Aj
def U2 : Lf := (yX.lo 7 3)
def OE : Sp := .leaf
def BK : Sp := .cut 7 3 BJ OE
def Ru : Lf := (xE.lo 5 16)
def P5 : Sp := .leaf
def AU : Sp := .cut 5 16 BK P5
def Au : Sp := .cut 5 0 Ny AU
def Rl : Lf := (yC.lo 4 1)
def NY : Sp := .leaf
def BM : Sp := .cut 4 1 Au NY
def Bg : Sp := .cut 4 0 MF BM
def QT : Lf := (y8.lo 3 4)
def NW : Sp := .leaf
def BI : Sp := .cut 3 4 Bg NW
def Bc : Sp := .cut 3 3 BP BI
def Ai : Sp := .cut 3 2 Bf Bc
def Bv : Sp := .cut 3 1 KO Ai
def xg : Lf := (wY.lo 0 3)
def xY : Lf := (xg.hi 0 (4 - 1))
def SB : Lf := (xY.hi 3 (1 - 1))
def LW : Sp := .leaf
def wZ : Lf := (xY.lo 3 1)
def wE : Lf := (wZ.hi 3 (2 - 1))
def yL : Lf := (wE.all [(5, 0), (6, 0), (7, 0)])
def QV : Lf := (yL.hi 8 (1 - 1))
def LD : Sp := .leaf
def xB : Lf := (yL.lo 8 1)
def QG : Lf := (xB.hi 8 (2 - 1))
def LU : Sp := (.conj [(10, 0), (11, 0), (12, 0)] (.conj [(1, 0), (2, 0), (13, 0), (14, 0), (15, 0)] .leaf (.conj [(13, 0), (14, 0), (15, 0)] (.conj [(1, 0), (2, 0)] .leaf (.cut 1 1 (.cut 2 1 .leaf .leaf) .leaf)) .leaf)) .leaf)
def Qs : Lf := (xB.lo 8 2)
def MI : Sp := (.cut 8 3 (.cut 9 0 .leaf (.cut 9 1 (.cut 10 0 .leaf (.cut 10 16 (.cut 12 3 (.conj [(1, 0), (2, 0), (13, 0), (14, 0), (15, 0)] .leaf (.conj [(13, 0), (14, 0), (15, 0)] (.conj [(1, 0), (2, 0)] .leaf (.cut 1 1 (.cut 2 1 .leaf .leaf) .leaf)) .leaf)) .leaf) .leaf)) .leaf)) (.cut 8 4 (.cut 9 0 .leaf (.cut 9 1 (.cut 10 0 .leaf (.cut 10 16 (.cut 12 3 (.conj [(1, 0), (2, 0), (13, 0), (14, 0), (15, 0)] .leaf (.conj [(13, 0), (14, 0), (15, 0)] (.conj [(1, 0), (2, 0)] .leaf (.cut 1 1 (.cut 2 1 .leaf .leaf) .leaf)) .leaf)) .leaf) .leaf)) .leaf)) .leaf))
def AQ : Sp := .cut 8 2 LU MI
def Ba : Sp := .cut 8 1 LD AQ
def TG : Lf := { wE with cf := [(5, 0), (6, 0), (7, 0)] :: wE.cf }
def Nr : Sp := .leaf
def Ar : Sp := .conj [(5, 0), (6, 0), (7, 0)] Ba Nr
def yU : Lf := (wZ.lo 3 2)
def yc : Lf := (yU.hi 3 (3 - 1))
def SS : Lf := (yc.hi 4 (0 - 1))
def Oa : Sp := .leaf
def yt : Lf := (yc.lo 4 0)
def yw : Lf := (yt.hi 4 (1 - 1))
def Qv : Lf := (yw.hi 5 (0 - 1))
def OY : Sp := .leaf
def yY : Lf := (yw.lo 5 0)
def wQ : Lf := (yY.hi 5 (16 - 1))
def wO : Lf := (wQ.hi 7 (3 - 1))
def QD : Lf := (wO.hi 8 (1 - 1))
def Om : Sp := .leaf
def xC : Lf := (wO.lo 8 1)
def U7 : Lf := (xC.hi 8 (2 - 1))
def NJ : Sp := (.conj [(10, 0), (11, 0), (12, 0)] (.conj [(1, 0), (2, 0), (13, 0), (14, 0), (15, 0)] .leaf (.conj [(13, 0), (14, 0), (15, 0)] (.conj [(1, 0), (2, 0)] .leaf (.cut 1 1 (.cut 2 1 .leaf .leaf) .leaf)) .leaf)) .leaf)
def RP : Lf := (xC.lo 8 2)
def Pn : Sp := (.cut 8 3 (.cut 9 0 .leaf (.cut 9 1 (.cut 10 0 .leaf (.cut 10 16 (.cut 12 3 (.conj [(1, 0), (2, 0), (13, 0), (14, 0), (15, 0)] .leaf (.conj [(13, 0), (14, 0), (15, 0)] (.conj [(1, 0), (2, 0)] .leaf (.cut 1 1 (.cut 2 1 .leaf .leaf) .leaf)) .leaf)) .leaf) .leaf)) .leaf)) (.cut 8 4 (.cut 9 0 .leaf (.cut 9 1 (.cut 10 0 .leaf (.cut 10 16 (.cut 12 3 (.conj [(1, 0), (2, 0), (13, 0), (14, 0), (15, 0)] .leaf (.conj [(13, 0), (14, 0), (15, 0)] (.conj [(1, 0), (2, 0)] .leaf (.cut 1 1 (.cut 2 1 .leaf .leaf) .leaf)) .leaf)) .leaf) .leaf)) .leaf)) .leaf))
def Bj : Sp := .cut 8 2 NJ Pn
def AP : Sp := .cut 8 1 Om Bj
def RQ : Lf := (wQ.lo 7 3)
def Lm : Sp := .leaf
def BX : Sp := .cut 7 3 AP Lm
def QF : Lf := (yY.lo 5 16)
def Kq : Sp := .leaf
def C9 : Sp := .cut 5 16 BX Kq
def Ah : Sp := .cut 5 0 OY C9
def RG : Lf := (yt.lo 4 1)
def OM : Sp := .leaf
def AB : Sp := .cut 4 1 Ah OM
def AV : Sp := .cut 4 0 Oa AB
def zl : Lf := (yU.lo 3 3)
def y9 : Lf := (zl.hi 3 (4 - 1))
def RU : Lf := (y9.hi 4 (0 - 1))
def PV : Sp := .leaf
def xA : Lf := (y9.lo 4 0)
def xP : Lf := (xA.hi 4 (1 - 1))
def TN : Lf := (xP.hi 5 (0 - 1))
def O1 : Sp := .leaf
def wS : Lf := (xP.lo 5 0)
def xX : Lf := (wS.hi 5 (16 - 1))
def yB : Lf := (xX.hi 7 (3 - 1))
def U4 : Lf := (yB.hi 8 (1 - 1))
def KX : Sp := .leaf
def xW : Lf := (yB.lo 8 1)
def TI : Lf := (xW.hi 8 (2 - 1))
def Oi : Sp := (.conj [(10, 0), (11, 0), (12, 0)] (.conj [(1, 0), (2, 0), (13, 0), (14, 0), (15, 0)] .leaf (.conj [(13, 0), (14, 0), (15, 0)] (.conj [(1, 0), (2, 0)] .leaf (.cut 1 1 (.cut 2 1 .leaf .leaf) .leaf)) .leaf)) .leaf)
def U5 : Lf := (xW.lo 8 2)
def MR : Sp := (.cut 8 3 (.cut 9 0 .leaf (.cut 9 1 (.cut 10 0 .leaf (.cut 10 16 (.cut 12 3 (.conj [(1, 0), (2, 0), (13, 0), (14, 0), (15, 0)] .leaf (.conj [(13, 0), (14, 0), (15, 0)] (.conj [(1, 0), (2, 0)] .leaf (.cut 1 1 (.cut 2 1 .leaf .leaf) .leaf)) .leaf)) .leaf) .leaf)) .leaf)) (.cut 8 4 (.cut 9 0 .leaf (.cut 9 1 (.cut 10 0 .leaf (.cut 10 16 (.cut 12 3 (.conj [(1, 0), (2, 0), (13, 0), (14, 0), (15, 0)] .leaf (.conj [(13, 0), (14, 0), (15, 0)] (.conj [(1, 0), (2, 0)] .leaf (.cut 1 1 (.cut 2 1 .leaf .leaf) .leaf)) .leaf)) .leaf) .leaf)) .leaf)) .leaf))
def Bo : Sp := .cut 8 2 Oi MR
def Cb : Sp := .cut 8 1 KX Bo
def GR : Lf := (xX.lo 7 3)
def Dv : Sp := .leaf
def Aw : Sp := .cut 7 3 Cb Dv
def Hq : Lf := (wS.lo 5 16)
def Dx : Sp := .leaf
def Bz : Sp := .cut 5 16 Aw Dx
def BN : Sp := .cut 5 0 O1 Bz
def Hg : Lf := (xA.lo 4 1)
def CV : Sp := .leaf
def BU : Sp := .cut 4 1 BN CV
def AY : Sp := .cut 4 0 PV BU
def Gs : Lf := (zl.lo 3 4)
def CQ : Sp := .leaf
def Aq : Sp := .cut 3 4 AY CQ
def Ce : Sp := .cut 3 3 AV Aq
def AO : Sp := .cut 3 2 Ar Ce
def Bh : Sp := .cut 3 1 LW AO
def qK : Lf := (xg.lo 0 4)
def GH : Lf := (qK.hi 0 (5 - 1))
def Dn : Sp := (.cut 13 0 (.conj [(3, 0), (4, 0), (5, 0), (6, 0), (7, 0)] (.conj [(8, 0), (9, 0), (10, 0), (11, 0), (12, 0)] .leaf .leaf) .leaf) (.cut 13 16 (.cut 15 3 (.cut 2 1 (.conj [(3, 0), (4, 0), (5, 0), (6, 0), (7, 0)] (.conj [(8, 0), (9, 0), (10, 0), (11, 0), (12, 0)] (.cut 1 1 .leaf .leaf) .leaf) .leaf) (.cut 2 4 (.conj [(1, 0), (3, 0), (4, 0), (5, 0), (6, 0), (7, 0), (8, 0), (9, 0), (10, 0), (11, 0), (12, 0)] .leaf (.conj [(3, 0), (4, 0), (5, 0), (6, 0), (7, 0)] (.conj [(1, 0), (8, 0), (9, 0), (10, 0), (11, 0), (12, 0)] .leaf (.conj [(8, 0), (9, 0), (10, 0), (11, 0), (12, 0)] (.cut 1 1 .leaf .leaf) .leaf)) .leaf)) (.conj [(3, 0), (4, 0), (5, 0), (6, 0), (7, 0)] (.conj [(8, 0), (9, 0), (10, 0), (11, 0), (12, 0)] (.cut 1 1 .leaf .leaf) .leaf) .leaf))) (.conj [(3, 0), (4, 0), (5, 0), (6, 0), (7, 0)] (.conj [(8, 0), (9, 0), (10, 0), (11, 0), (12, 0)] .leaf .leaf) .leaf)) (.conj [(3, 0), (4, 0), (5, 0), (6, 0), (7, 0)] (.conj [(8, 0), (9, 0), (10, 0), (11, 0), (12, 0)] .leaf .leaf) .leaf)))
def FW : Lf := (qK.lo 0 5)
def DL : Sp := (.cut 0 6 (.cut 13 0 (.conj [(3, 0), (4, 0), (5, 0), (6, 0), (7, 0)] (.conj [(8, 0), (9, 0), (10, 0), (11, 0), (12, 0)] .leaf .leaf) .leaf) (.cut 13 16 (.cut 15 3 (.conj [(1, 0), (2, 0), (3, 0), (4, 0), (5, 0), (6, 0), (7, 0), (8, 0), (9, 0), (10, 0), (11, 0), (12, 0)] .leaf (.conj [(3, 0), (4, 0), (5, 0), (6, 0), (7, 0)] (.conj [(1, 0), (2, 0), (8, 0), (9, 0), (10, 0), (11, 0), (12, 0)] .leaf (.conj [(8, 0), (9, 0), (10, 0), (11, 0), (12, 0)] (.conj [(1, 0), (2, 0)] .leaf (.cut 1 1 (.cut 2 1 .leaf .leaf) .leaf)) .leaf)) .leaf)) (.conj [(3, 0), (4, 0), (5, 0), (6, 0), (7, 0)] (.conj [(8, 0), (9, 0), (10, 0), (11, 0), (12, 0)] .leaf .leaf) .leaf)) (.conj [(3, 0), (4, 0), (5, 0), (6, 0), (7, 0)] (.conj [(8, 0), (9, 0), (10, 0), (11, 0), (12, 0)] .leaf .leaf) .leaf))) .leaf)
def tq : Sp := .cut 0 5 Dn DL
def AA : Sp := .cut 0 4 Bh tq
def Ag : Sp := .cut 0 3 Bv AA
def Qa : Sp := .cut 0 2 Qb Ag
def Un : Sp := .cut 0 1 a1f Qa
def au (L : Lf) : Bool := ou (nM 0) m8 kRv L (@runs (L.know (fD 0 kRv)) (mY Tryz.prog) (nC Tryz.prog) (low4 (L.know (fD 0 kRv))) 30 15 96 [.g ((bV 0 kRv).map L.nS)] ⟨[], 0⟩ 0)
theorem ajF : (a1f.leaves a4A).all au = true := by kernel_rfl
theorem ahF : (a0v.leaves a5x).all au = true := by kernel_rfl
theorem ajA : (a0P.leaves a7k).all au = true := by kernel_rfl
theorem aiP : (Zt.leaves a7X).all au = true := by kernel_rfl
theorem ajG : (ZB.leaves a7Z).all au = true := by kernel_rfl
theorem acf : (KO.leaves SY).all au = true := by kernel_rfl
theorem abt : (MP.leaves QM).all au = true := by kernel_rfl
theorem agw : (OL.leaves Tv).all au = true := by kernel_rfl
theorem aai : (KT.leaves Rj).all au = true := by kernel_rfl
theorem aa9 : (NT.leaves TW).all au = true := by kernel_rfl
theorem aco : (OT.leaves Tt).all au = true := by kernel_rfl
theorem a9P : (KA.leaves Tf).all au = true := by kernel_rfl
theorem adL : (OQ.leaves U6).all au = true := by kernel_rfl
theorem adG : (L9.leaves Qz).all au = true := by kernel_rfl
theorem a9Y : (Pj.leaves U3).all au = true := by kernel_rfl
theorem ah2 : (Lp.leaves SV).all au = true := by kernel_rfl
theorem af9 : (O9.leaves RZ).all au = true := by kernel_rfl
theorem abY : (NG.leaves QU).all au = true := by kernel_rfl
theorem aas : (P8.leaves TM).all au = true := by kernel_rfl
theorem acj : (PK.leaves Sr).all au = true := by kernel_rfl
theorem afH : (MF.leaves TK).all au = true := by kernel_rfl
theorem acG : (Ny.leaves QO).all au = true := by kernel_rfl
theorem a8V : (Lu.leaves TJ).all au = true := by kernel_rfl
theorem acY : (Og.leaves QX).all au = true := by kernel_rfl
theorem abm : (Lj.leaves QN).all au = true := by kernel_rfl
theorem ad8 : (PU.leaves U1).all au = true := by kernel_rfl
theorem ae6 : (OE.leaves U2).all au = true := by kernel_rfl
theorem aeR : (P5.leaves Ru).all au = true := by kernel_rfl
theorem abJ : (NY.leaves Rl).all au = true := by kernel_rfl
theorem ady : (NW.leaves QT).all au = true := by kernel_rfl
theorem aey : (LW.leaves SB).all au = true := by kernel_rfl
theorem ahm : (LD.leaves QV).all au = true := by kernel_rfl
theorem adb : (LU.leaves QG).all au = true := by kernel_rfl
theorem abn : (MI.leaves Qs).all au = true := by kernel_rfl
theorem aaM : (Nr.leaves TG).all au = true := by kernel_rfl
theorem acp : (Oa.leaves SS).all au = true := by kernel_rfl
theorem a9j : (OY.leaves Qv).all au = true := by kernel_rfl
theorem aa2 : (Om.leaves QD).all au = true := by kernel_rfl
theorem aeo : (NJ.leaves U7).all au = true := by kernel_rfl
theorem acV : (Pn.leaves RP).all au = true := by kernel_rfl
theorem agO : (Lm.leaves RQ).all au = true := by kernel_rfl
theorem aek : (Kq.leaves QF).all au = true := by kernel_rfl
theorem a9d : (OM.leaves RG).all au = true := by kernel_rfl
theorem agW : (PV.leaves RU).all au = true := by kernel_rfl
theorem a8M : (O1.leaves TN).all au = true := by kernel_rfl
theorem af6 : (KX.leaves U4).all au = true := by kernel_rfl
theorem a9a : (Oi.leaves TI).all au = true := by kernel_rfl
theorem adh : (MR.leaves U5).all au = true := by kernel_rfl
theorem a7E : (Dv.leaves GR).all au = true := by kernel_rfl
theorem a4v : (Dx.leaves Hq).all au = true := by kernel_rfl
theorem a4D : (CV.leaves Hg).all au = true := by kernel_rfl
theorem a8a : (CQ.leaves Gs).all au = true := by kernel_rfl
theorem a5O : (Dn.leaves GH).all au = true := by kernel_rfl
theorem a5W : (DL.leaves FW).all au = true := by kernel_rfl
theorem ajv : (PZ.leaves OZ).all au = true := by
 have e : PZ.leaves OZ = Zt.leaves a7X ++ ZB.leaves a7Z := rfl
 rw [e]
 simp only [apu, aiP, ajG, apv]
theorem aht : (Ql.leaves O6).all au = true := by
 have e : Ql.leaves O6 = a0P.leaves a7k ++ PZ.leaves OZ := rfl
 rw [e]
 simp only [apu, ajA, ajv, apv]
theorem aky : (Qb.leaves LH).all au = true := by
 have e : Qb.leaves LH = a0v.leaves a5x ++ Ql.leaves O6 := rfl
 rw [e]
 simp only [apu, ahF, aht, apv]
theorem ac6 : (Ae.leaves yK).all au = true := by
 have e : Ae.leaves yK = KT.leaves Rj ++ NT.leaves TW := rfl
 rw [e]
 simp only [apu, aai, aa9, apv]
theorem aa4 : (Cc.leaves xk).all au = true := by
 have e : Cc.leaves xk = OL.leaves Tv ++ Ae.leaves yK := rfl
 rw [e]
 simp only [apu, agw, ac6, apv]
theorem ag5 : (BQ.leaves yE).all au = true := by
 have e : BQ.leaves yE = MP.leaves QM ++ Cc.leaves xk := rfl
 rw [e]
 simp only [apu, abt, aa4, apv]
theorem agQ : (Bf.leaves wC).all au = true := by
 have e : Bf.leaves wC = BQ.leaves yE ++ OT.leaves Tt := rfl
 rw [e]
 simp only [apu, ag5, aco, apv]
theorem ae8 : (AZ.leaves yx).all au = true := by
 have e : AZ.leaves yx = Lp.leaves SV ++ O9.leaves RZ := rfl
 rw [e]
 simp only [apu, ah2, af9, apv]
theorem abC : (BZ.leaves wR).all au = true := by
 have e : BZ.leaves wR = Pj.leaves U3 ++ AZ.leaves yx := rfl
 rw [e]
 simp only [apu, a9Y, ae8, apv]
theorem aeF : (BH.leaves yg).all au = true := by
 have e : BH.leaves yg = L9.leaves Qz ++ BZ.leaves wR := rfl
 rw [e]
 simp only [apu, adG, abC, apv]
theorem acn : (BF.leaves yN).all au = true := by
 have e : BF.leaves yN = BH.leaves yg ++ NG.leaves QU := rfl
 rw [e]
 simp only [apu, aeF, abY, apv]
theorem acg : (BL.leaves yM).all au = true := by
 have e : BL.leaves yM = BF.leaves yN ++ P8.leaves TM := rfl
 rw [e]
 simp only [apu, acn, aas, apv]
theorem aeu : (BR.leaves zh).all au = true := by
 have e : BR.leaves zh = OQ.leaves U6 ++ BL.leaves yM := rfl
 rw [e]
 simp only [apu, adL, acg, apv]
theorem acs : (Ap.leaves yj).all au = true := by
 have e : Ap.leaves yj = BR.leaves zh ++ PK.leaves Sr := rfl
 rw [e]
 simp only [apu, aeu, acj, apv]
theorem ahg : (BP.leaves zi).all au = true := by
 have e : BP.leaves zi = KA.leaves Tf ++ Ap.leaves yj := rfl
 rw [e]
 simp only [apu, a9P, acs, apv]
theorem afW : (Bq.leaves zk).all au = true := by
 have e : Bq.leaves zk = Lj.leaves QN ++ PU.leaves U1 := rfl
 rw [e]
 simp only [apu, abm, ad8, apv]
theorem abk : (Aj.leaves wK).all au = true := by
 have e : Aj.leaves wK = Og.leaves QX ++ Bq.leaves zk := rfl
 rw [e]
 simp only [apu, acY, afW, apv]
theorem abE : (BJ.leaves yQ).all au = true := by
 have e : BJ.leaves yQ = Lu.leaves TJ ++ Aj.leaves wK := rfl
 rw [e]
 simp only [apu, a8V, abk, apv]
theorem a8O : (BK.leaves yX).all au = true := by
 have e : BK.leaves yX = BJ.leaves yQ ++ OE.leaves U2 := rfl
 rw [e]
 simp only [apu, abE, ae6, apv]
theorem a8W : (AU.leaves xE).all au = true := by
 have e : AU.leaves xE = BK.leaves yX ++ P5.leaves Ru := rfl
 rw [e]
 simp only [apu, a8O, aeR, apv]
theorem afK : (Au.leaves yD).all au = true := by
 have e : Au.leaves yD = Ny.leaves QO ++ AU.leaves xE := rfl
 rw [e]
 simp only [apu, acG, a8W, apv]
theorem a90 : (BM.leaves yC).all au = true := by
 have e : BM.leaves yC = Au.leaves yD ++ NY.leaves Rl := rfl
 rw [e]
 simp only [apu, afK, abJ, apv]
theorem adM : (Bg.leaves wX).all au = true := by
 have e : Bg.leaves wX = MF.leaves TK ++ BM.leaves yC := rfl
 rw [e]
 simp only [apu, afH, a90, apv]
theorem acy : (BI.leaves y8).all au = true := by
 have e : BI.leaves y8 = Bg.leaves wX ++ NW.leaves QT := rfl
 rw [e]
 simp only [apu, adM, ady, apv]
theorem agx : (Bc.leaves yJ).all au = true := by
 have e : Bc.leaves yJ = BP.leaves zi ++ BI.leaves y8 := rfl
 rw [e]
 simp only [apu, ahg, acy, apv]
theorem aaC : (Ai.leaves yF).all au = true := by
 have e : Ai.leaves yF = Bf.leaves wC ++ Bc.leaves yJ := rfl
 rw [e]
 simp only [apu, agQ, agx, apv]
theorem agb : (Bv.leaves wP).all au = true := by
 have e : Bv.leaves wP = KO.leaves SY ++ Ai.leaves yF := rfl
 rw [e]
 simp only [apu, acf, aaC, apv]
theorem agt : (AQ.leaves xB).all au = true := by
 have e : AQ.leaves xB = LU.leaves QG ++ MI.leaves Qs := rfl
 rw [e]
 simp only [apu, adb, abn, apv]
theorem abj : (Ba.leaves yL).all au = true := by
 have e : Ba.leaves yL = LD.leaves QV ++ AQ.leaves xB := rfl
 rw [e]
 simp only [apu, ahm, agt, apv]
theorem a9g : (Ar.leaves wE).all au = true := by
 have e : Ar.leaves wE = Ba.leaves yL ++ Nr.leaves TG := rfl
 rw [e]
 simp only [apu, abj, aaM, apv]
theorem a9k : (Bj.leaves xC).all au = true := by
 have e : Bj.leaves xC = NJ.leaves U7 ++ Pn.leaves RP := rfl
 rw [e]
 simp only [apu, aeo, acV, apv]
theorem afo : (AP.leaves wO).all au = true := by
 have e : AP.leaves wO = Om.leaves QD ++ Bj.leaves xC := rfl
 rw [e]
 simp only [apu, aa2, a9k, apv]
theorem acU : (BX.leaves wQ).all au = true := by
 have e : BX.leaves wQ = AP.leaves wO ++ Lm.leaves RQ := rfl
 rw [e]
 simp only [apu, afo, agO, apv]
theorem abz : (C9.leaves yY).all au = true := by
 have e : C9.leaves yY = BX.leaves wQ ++ Kq.leaves QF := rfl
 rw [e]
 simp only [apu, acU, aek, apv]
theorem ael : (Ah.leaves yw).all au = true := by
 have e : Ah.leaves yw = OY.leaves Qv ++ C9.leaves yY := rfl
 rw [e]
 simp only [apu, a9j, abz, apv]
theorem a9z : (AB.leaves yt).all au = true := by
 have e : AB.leaves yt = Ah.leaves yw ++ OM.leaves RG := rfl
 rw [e]
 simp only [apu, ael, a9d, apv]
theorem ad7 : (AV.leaves yc).all au = true := by
 have e : AV.leaves yc = Oa.leaves SS ++ AB.leaves yt := rfl
 rw [e]
 simp only [apu, acp, a9z, apv]
theorem aae : (Bo.leaves xW).all au = true := by
 have e : Bo.leaves xW = Oi.leaves TI ++ MR.leaves U5 := rfl
 rw [e]
 simp only [apu, a9a, adh, apv]
theorem afX : (Cb.leaves yB).all au = true := by
 have e : Cb.leaves yB = KX.leaves U4 ++ Bo.leaves xW := rfl
 rw [e]
 simp only [apu, af6, aae, apv]
theorem abe : (Aw.leaves xX).all au = true := by
 have e : Aw.leaves xX = Cb.leaves yB ++ Dv.leaves GR := rfl
 rw [e]
 simp only [apu, afX, a7E, apv]
theorem a9F : (Bz.leaves wS).all au = true := by
 have e : Bz.leaves wS = Aw.leaves xX ++ Dx.leaves Hq := rfl
 rw [e]
 simp only [apu, abe, a4v, apv]
theorem aac : (BN.leaves xP).all au = true := by
 have e : BN.leaves xP = O1.leaves TN ++ Bz.leaves wS := rfl
 rw [e]
 simp only [apu, a8M, a9F, apv]
theorem a8U : (BU.leaves xA).all au = true := by
 have e : BU.leaves xA = BN.leaves xP ++ CV.leaves Hg := rfl
 rw [e]
 simp only [apu, aac, a4D, apv]
theorem adV : (AY.leaves y9).all au = true := by
 have e : AY.leaves y9 = PV.leaves RU ++ BU.leaves xA := rfl
 rw [e]
 simp only [apu, agW, a8U, apv]
theorem a8S : (Aq.leaves zl).all au = true := by
 have e : Aq.leaves zl = AY.leaves y9 ++ CQ.leaves Gs := rfl
 rw [e]
 simp only [apu, adV, a8a, apv]
theorem ah1 : (Ce.leaves yU).all au = true := by
 have e : Ce.leaves yU = AV.leaves yc ++ Aq.leaves zl := rfl
 rw [e]
 simp only [apu, ad7, a8S, apv]
theorem a8D : (AO.leaves wZ).all au = true := by
 have e : AO.leaves wZ = Ar.leaves wE ++ Ce.leaves yU := rfl
 rw [e]
 simp only [apu, a9g, ah1, apv]
theorem aeC : (Bh.leaves xY).all au = true := by
 have e : Bh.leaves xY = LW.leaves SB ++ AO.leaves wZ := rfl
 rw [e]
 simp only [apu, aey, a8D, apv]
theorem a7I : (tq.leaves qK).all au = true := by
 have e : tq.leaves qK = Dn.leaves GH ++ DL.leaves FW := rfl
 rw [e]
 simp only [apu, a5O, a5W, apv]
theorem ab4 : (AA.leaves xg).all au = true := by
 have e : AA.leaves xg = Bh.leaves xY ++ tq.leaves qK := rfl
 rw [e]
 simp only [apu, aeC, a7I, apv]
theorem adS : (Ag.leaves wY).all au = true := by
 have e : Ag.leaves wY = Bv.leaves wP ++ AA.leaves xg := rfl
 rw [e]
 simp only [apu, agb, ab4, apv]
theorem ajM : (Qa.leaves Nw).all au = true := by
 have e : Qa.leaves Nw = Qb.leaves LH ++ Ag.leaves wY := rfl
 rw [e]
 simp only [apu, aky, adS, apv]
theorem ahR : (Un.leaves Xu).all au = true := by
 have e : Un.leaves Xu = a1f.leaves a4A ++ Qa.leaves Nw := rfl
 rw [e]
 simp only [apu, ajF, ajM, apv]
theorem Rk : Tests Tryz.prog Ad 96 kRv (nM 0) v8 := o9 I5 (fun L => low4 (L.know (fD 0 kRv))) (fun _ {_ _} h k => CX (uJ default (Lf.ok h k))) (sp := Un) ahR
def ay (L : Lf) : Bool := ou (nM 0) m8 kRv L (@runs (L.know (fD 0 kRv)) (mY Tryz.prog) (nC Tryz.prog) (low4 (L.know (fD 0 kRv))) 30 15 128 [.g ((bV 0 kRv).map L.nS)] ⟨[], 0⟩ 0)
theorem akf : (a1f.leaves a4A).all ay = true := by kernel_rfl
theorem ahW : (a0v.leaves a5x).all ay = true := by kernel_rfl
theorem ajH : (a0P.leaves a7k).all ay = true := by kernel_rfl
theorem ajN : (Zt.leaves a7X).all ay = true := by kernel_rfl
theorem ajz : (ZB.leaves a7Z).all ay = true := by kernel_rfl
theorem aeI : (KO.leaves SY).all ay = true := by kernel_rfl
theorem afL : (MP.leaves QM).all ay = true := by kernel_rfl
theorem ag4 : (OL.leaves Tv).all ay = true := by kernel_rfl
theorem agi : (KT.leaves Rj).all ay = true := by kernel_rfl
theorem afz : (NT.leaves TW).all ay = true := by kernel_rfl
theorem a9e : (OT.leaves Tt).all ay = true := by kernel_rfl
theorem af4 : (KA.leaves Tf).all ay = true := by kernel_rfl
theorem a9I : (OQ.leaves U6).all ay = true := by kernel_rfl
theorem adC : (L9.leaves Qz).all ay = true := by kernel_rfl
theorem a9G : (Pj.leaves U3).all ay = true := by kernel_rfl
theorem ac5 : (Lp.leaves SV).all ay = true := by kernel_rfl
theorem agk : (O9.leaves RZ).all ay = true := by kernel_rfl
theorem aeK : (NG.leaves QU).all ay = true := by kernel_rfl
theorem ag9 : (P8.leaves TM).all ay = true := by kernel_rfl
theorem aar : (PK.leaves Sr).all ay = true := by kernel_rfl
theorem ae9 : (MF.leaves TK).all ay = true := by kernel_rfl
theorem afu : (Ny.leaves QO).all ay = true := by kernel_rfl
theorem a9m : (Lu.leaves TJ).all ay = true := by kernel_rfl
theorem ah5 : (Og.leaves QX).all ay = true := by kernel_rfl
theorem aeh : (Lj.leaves QN).all ay = true := by kernel_rfl
theorem adn : (PU.leaves U1).all ay = true := by kernel_rfl
theorem a9b : (OE.leaves U2).all ay = true := by kernel_rfl
theorem agf : (P5.leaves Ru).all ay = true := by kernel_rfl
theorem aeA : (NY.leaves Rl).all ay = true := by kernel_rfl
theorem a8E : (NW.leaves QT).all ay = true := by kernel_rfl
theorem adi : (LW.leaves SB).all ay = true := by kernel_rfl
theorem ae7 : (LD.leaves QV).all ay = true := by kernel_rfl
theorem ahn : (LU.leaves QG).all ay = true := by kernel_rfl
theorem aa3 : (MI.leaves Qs).all ay = true := by kernel_rfl
theorem a99 : (Nr.leaves TG).all ay = true := by kernel_rfl
theorem aa7 : (Oa.leaves SS).all ay = true := by kernel_rfl
theorem ag7 : (OY.leaves Qv).all ay = true := by kernel_rfl
theorem abD : (Om.leaves QD).all ay = true := by kernel_rfl
theorem aag : (NJ.leaves U7).all ay = true := by kernel_rfl
theorem aaH : (Pn.leaves RP).all ay = true := by kernel_rfl
theorem afE : (Lm.leaves RQ).all ay = true := by kernel_rfl
theorem ads : (Kq.leaves QF).all ay = true := by kernel_rfl
theorem a9f : (OM.leaves RG).all ay = true := by kernel_rfl
theorem aeg : (PV.leaves RU).all ay = true := by kernel_rfl
theorem aaw : (O1.leaves TN).all ay = true := by kernel_rfl
theorem acS : (KX.leaves U4).all ay = true := by kernel_rfl
theorem acB : (Oi.leaves TI).all ay = true := by kernel_rfl
theorem aa1 : (MR.leaves U5).all ay = true := by kernel_rfl
theorem a6w : (Dv.leaves GR).all ay = true := by kernel_rfl
theorem a6V : (Dx.leaves Hq).all ay = true := by kernel_rfl
theorem a7l : (CV.leaves Hg).all ay = true := by kernel_rfl
theorem a8s : (CQ.leaves Gs).all ay = true := by kernel_rfl
theorem a8h : (Dn.leaves GH).all ay = true := by kernel_rfl
theorem a6d : (DL.leaves FW).all ay = true := by kernel_rfl
theorem ahQ : (PZ.leaves OZ).all ay = true := by
 have e : PZ.leaves OZ = Zt.leaves a7X ++ ZB.leaves a7Z := rfl
 rw [e]
 simp only [apu, ajN, ajz, apv]
theorem ajo : (Ql.leaves O6).all ay = true := by
 have e : Ql.leaves O6 = a0P.leaves a7k ++ PZ.leaves OZ := rfl
 rw [e]
 simp only [apu, ajH, ahQ, apv]
theorem ahC : (Qb.leaves LH).all ay = true := by
 have e : Qb.leaves LH = a0v.leaves a5x ++ Ql.leaves O6 := rfl
 rw [e]
 simp only [apu, ahW, ajo, apv]
theorem a9c : (Ae.leaves yK).all ay = true := by
 have e : Ae.leaves yK = KT.leaves Rj ++ NT.leaves TW := rfl
 rw [e]
 simp only [apu, agi, afz, apv]
theorem ade : (Cc.leaves xk).all ay = true := by
 have e : Cc.leaves xk = OL.leaves Tv ++ Ae.leaves yK := rfl
 rw [e]
 simp only [apu, ag4, a9c, apv]
theorem ah4 : (BQ.leaves yE).all ay = true := by
 have e : BQ.leaves yE = MP.leaves QM ++ Cc.leaves xk := rfl
 rw [e]
 simp only [apu, afL, ade, apv]
theorem aeS : (Bf.leaves wC).all ay = true := by
 have e : Bf.leaves wC = BQ.leaves yE ++ OT.leaves Tt := rfl
 rw [e]
 simp only [apu, ah4, a9e, apv]
theorem abM : (AZ.leaves yx).all ay = true := by
 have e : AZ.leaves yx = Lp.leaves SV ++ O9.leaves RZ := rfl
 rw [e]
 simp only [apu, ac5, agk, apv]
theorem aaP : (BZ.leaves wR).all ay = true := by
 have e : BZ.leaves wR = Pj.leaves U3 ++ AZ.leaves yx := rfl
 rw [e]
 simp only [apu, a9G, abM, apv]
theorem abb : (BH.leaves yg).all ay = true := by
 have e : BH.leaves yg = L9.leaves Qz ++ BZ.leaves wR := rfl
 rw [e]
 simp only [apu, adC, aaP, apv]
theorem adU : (BF.leaves yN).all ay = true := by
 have e : BF.leaves yN = BH.leaves yg ++ NG.leaves QU := rfl
 rw [e]
 simp only [apu, abb, aeK, apv]
theorem ae4 : (BL.leaves yM).all ay = true := by
 have e : BL.leaves yM = BF.leaves yN ++ P8.leaves TM := rfl
 rw [e]
 simp only [apu, adU, ag9, apv]
theorem afq : (BR.leaves zh).all ay = true := by
 have e : BR.leaves zh = OQ.leaves U6 ++ BL.leaves yM := rfl
 rw [e]
 simp only [apu, a9I, ae4, apv]
theorem acQ : (Ap.leaves yj).all ay = true := by
 have e : Ap.leaves yj = BR.leaves zh ++ PK.leaves Sr := rfl
 rw [e]
 simp only [apu, afq, aar, apv]
theorem ad4 : (BP.leaves zi).all ay = true := by
 have e : BP.leaves zi = KA.leaves Tf ++ Ap.leaves yj := rfl
 rw [e]
 simp only [apu, af4, acQ, apv]
theorem agI : (Bq.leaves zk).all ay = true := by
 have e : Bq.leaves zk = Lj.leaves QN ++ PU.leaves U1 := rfl
 rw [e]
 simp only [apu, aeh, adn, apv]
theorem acW : (Aj.leaves wK).all ay = true := by
 have e : Aj.leaves wK = Og.leaves QX ++ Bq.leaves zk := rfl
 rw [e]
 simp only [apu, ah5, agI, apv]
theorem a8Z : (BJ.leaves yQ).all ay = true := by
 have e : BJ.leaves yQ = Lu.leaves TJ ++ Aj.leaves wK := rfl
 rw [e]
 simp only [apu, a9m, acW, apv]
theorem acI : (BK.leaves yX).all ay = true := by
 have e : BK.leaves yX = BJ.leaves yQ ++ OE.leaves U2 := rfl
 rw [e]
 simp only [apu, a8Z, a9b, apv]
theorem agL : (AU.leaves xE).all ay = true := by
 have e : AU.leaves xE = BK.leaves yX ++ P5.leaves Ru := rfl
 rw [e]
 simp only [apu, acI, agf, apv]
theorem aaN : (Au.leaves yD).all ay = true := by
 have e : Au.leaves yD = Ny.leaves QO ++ AU.leaves xE := rfl
 rw [e]
 simp only [apu, afu, agL, apv]
theorem afv : (BM.leaves yC).all ay = true := by
 have e : BM.leaves yC = Au.leaves yD ++ NY.leaves Rl := rfl
 rw [e]
 simp only [apu, aaN, aeA, apv]
theorem aah : (Bg.leaves wX).all ay = true := by
 have e : Bg.leaves wX = MF.leaves TK ++ BM.leaves yC := rfl
 rw [e]
 simp only [apu, ae9, afv, apv]
theorem aeY : (BI.leaves y8).all ay = true := by
 have e : BI.leaves y8 = Bg.leaves wX ++ NW.leaves QT := rfl
 rw [e]
 simp only [apu, aah, a8E, apv]
theorem agM : (Bc.leaves yJ).all ay = true := by
 have e : Bc.leaves yJ = BP.leaves zi ++ BI.leaves y8 := rfl
 rw [e]
 simp only [apu, ad4, aeY, apv]
theorem a9J : (Ai.leaves yF).all ay = true := by
 have e : Ai.leaves yF = Bf.leaves wC ++ Bc.leaves yJ := rfl
 rw [e]
 simp only [apu, aeS, agM, apv]
theorem a9K : (Bv.leaves wP).all ay = true := by
 have e : Bv.leaves wP = KO.leaves SY ++ Ai.leaves yF := rfl
 rw [e]
 simp only [apu, aeI, a9J, apv]
theorem aaG : (AQ.leaves xB).all ay = true := by
 have e : AQ.leaves xB = LU.leaves QG ++ MI.leaves Qs := rfl
 rw [e]
 simp only [apu, ahn, aa3, apv]
theorem adN : (Ba.leaves yL).all ay = true := by
 have e : Ba.leaves yL = LD.leaves QV ++ AQ.leaves xB := rfl
 rw [e]
 simp only [apu, ae7, aaG, apv]
theorem aaB : (Ar.leaves wE).all ay = true := by
 have e : Ar.leaves wE = Ba.leaves yL ++ Nr.leaves TG := rfl
 rw [e]
 simp only [apu, adN, a99, apv]
theorem ad1 : (Bj.leaves xC).all ay = true := by
 have e : Bj.leaves xC = NJ.leaves U7 ++ Pn.leaves RP := rfl
 rw [e]
 simp only [apu, aag, aaH, apv]
theorem a96 : (AP.leaves wO).all ay = true := by
 have e : AP.leaves wO = Om.leaves QD ++ Bj.leaves xC := rfl
 rw [e]
 simp only [apu, abD, ad1, apv]
theorem adt : (BX.leaves wQ).all ay = true := by
 have e : BX.leaves wQ = AP.leaves wO ++ Lm.leaves RQ := rfl
 rw [e]
 simp only [apu, a96, afE, apv]
theorem abd : (C9.leaves yY).all ay = true := by
 have e : C9.leaves yY = BX.leaves wQ ++ Kq.leaves QF := rfl
 rw [e]
 simp only [apu, adt, ads, apv]
theorem agR : (Ah.leaves yw).all ay = true := by
 have e : Ah.leaves yw = OY.leaves Qv ++ C9.leaves yY := rfl
 rw [e]
 simp only [apu, ag7, abd, apv]
theorem aff : (AB.leaves yt).all ay = true := by
 have e : AB.leaves yt = Ah.leaves yw ++ OM.leaves RG := rfl
 rw [e]
 simp only [apu, agR, a9f, apv]
theorem ac9 : (AV.leaves yc).all ay = true := by
 have e : AV.leaves yc = Oa.leaves SS ++ AB.leaves yt := rfl
 rw [e]
 simp only [apu, aa7, aff, apv]
theorem a9H : (Bo.leaves xW).all ay = true := by
 have e : Bo.leaves xW = Oi.leaves TI ++ MR.leaves U5 := rfl
 rw [e]
 simp only [apu, acB, aa1, apv]
theorem aad : (Cb.leaves yB).all ay = true := by
 have e : Cb.leaves yB = KX.leaves U4 ++ Bo.leaves xW := rfl
 rw [e]
 simp only [apu, acS, a9H, apv]
theorem afZ : (Aw.leaves xX).all ay = true := by
 have e : Aw.leaves xX = Cb.leaves yB ++ Dv.leaves GR := rfl
 rw [e]
 simp only [apu, aad, a6w, apv]
theorem a9O : (Bz.leaves wS).all ay = true := by
 have e : Bz.leaves wS = Aw.leaves xX ++ Dx.leaves Hq := rfl
 rw [e]
 simp only [apu, afZ, a6V, apv]
theorem a94 : (BN.leaves xP).all ay = true := by
 have e : BN.leaves xP = O1.leaves TN ++ Bz.leaves wS := rfl
 rw [e]
 simp only [apu, aaw, a9O, apv]
theorem afY : (BU.leaves xA).all ay = true := by
 have e : BU.leaves xA = BN.leaves xP ++ CV.leaves Hg := rfl
 rw [e]
 simp only [apu, a94, a7l, apv]
theorem aao : (AY.leaves y9).all ay = true := by
 have e : AY.leaves y9 = PV.leaves RU ++ BU.leaves xA := rfl
 rw [e]
 simp only [apu, aeg, afY, apv]
theorem agJ : (Aq.leaves zl).all ay = true := by
 have e : Aq.leaves zl = AY.leaves y9 ++ CQ.leaves Gs := rfl
 rw [e]
 simp only [apu, aao, a8s, apv]
theorem adB : (Ce.leaves yU).all ay = true := by
 have e : Ce.leaves yU = AV.leaves yc ++ Aq.leaves zl := rfl
 rw [e]
 simp only [apu, ac9, agJ, apv]
theorem afy : (AO.leaves wZ).all ay = true := by
 have e : AO.leaves wZ = Ar.leaves wE ++ Ce.leaves yU := rfl
 rw [e]
 simp only [apu, aaB, adB, apv]
theorem afe : (Bh.leaves xY).all ay = true := by
 have e : Bh.leaves xY = LW.leaves SB ++ AO.leaves wZ := rfl
 rw [e]
 simp only [apu, adi, afy, apv]
theorem a6r : (tq.leaves qK).all ay = true := by
 have e : tq.leaves qK = Dn.leaves GH ++ DL.leaves FW := rfl
 rw [e]
 simp only [apu, a8h, a6d, apv]
theorem aew : (AA.leaves xg).all ay = true := by
 have e : AA.leaves xg = Bh.leaves xY ++ tq.leaves qK := rfl
 rw [e]
 simp only [apu, afe, a6r, apv]
theorem aam : (Ag.leaves wY).all ay = true := by
 have e : Ag.leaves wY = Bv.leaves wP ++ AA.leaves xg := rfl
 rw [e]
 simp only [apu, a9K, aew, apv]
theorem ajQ : (Qa.leaves Nw).all ay = true := by
 have e : Qa.leaves Nw = Qb.leaves LH ++ Ag.leaves wY := rfl
 rw [e]
 simp only [apu, ahC, aam, apv]
theorem ahI : (Un.leaves Xu).all ay = true := by
 have e : Un.leaves Xu = a1f.leaves a4A ++ Qa.leaves Nw := rfl
 rw [e]
 simp only [apu, akf, ajQ, apv]
theorem TR : Tests Tryz.prog Ad 128 kRv (nM 0) v8 := o9 I5 (fun L => low4 (L.know (fD 0 kRv))) (fun _ {_ _} h k => CX (uJ default (Lf.ok h k))) (sp := Un) ahI
def aA (L : Lf) : Bool := ou (nM 0) mB kRv L (@runs (L.know (fD 0 kRv)) (mY Tryz.prog) (nC Tryz.prog) (low4 (L.know (fD 0 kRv))) 30 15 137 [.g ((bV 0 kRv).map L.nS)] ⟨[], 0⟩ 0)
theorem akk : (a1f.leaves a4A).all aA = true := by kernel_rfl
theorem ahz : (a0v.leaves a5x).all aA = true := by kernel_rfl
theorem ake : (a0P.leaves a7k).all aA = true := by kernel_rfl
theorem ahP : (Zt.leaves a7X).all aA = true := by kernel_rfl
theorem ahL : (ZB.leaves a7Z).all aA = true := by kernel_rfl
theorem afO : (KO.leaves SY).all aA = true := by kernel_rfl
theorem a9N : (MP.leaves QM).all aA = true := by kernel_rfl
theorem aeW : (OL.leaves Tv).all aA = true := by kernel_rfl
theorem adr : (KT.leaves Rj).all aA = true := by kernel_rfl
theorem aez : (NT.leaves TW).all aA = true := by kernel_rfl
theorem af5 : (OT.leaves Tt).all aA = true := by kernel_rfl
theorem afc : (KA.leaves Tf).all aA = true := by kernel_rfl
theorem agd : (OQ.leaves U6).all aA = true := by kernel_rfl
theorem ag3 : (L9.leaves Qz).all aA = true := by kernel_rfl
theorem afw : (Pj.leaves U3).all aA = true := by kernel_rfl
theorem afr : (Lp.leaves SV).all aA = true := by kernel_rfl
theorem aaf : (O9.leaves RZ).all aA = true := by kernel_rfl
theorem a9h : (NG.leaves QU).all aA = true := by kernel_rfl
theorem a8R : (P8.leaves TM).all aA = true := by kernel_rfl
theorem aaq : (PK.leaves Sr).all aA = true := by kernel_rfl
theorem a8I : (MF.leaves TK).all aA = true := by kernel_rfl
theorem ac3 : (Ny.leaves QO).all aA = true := by kernel_rfl
theorem adY : (Lu.leaves TJ).all aA = true := by kernel_rfl
theorem abq : (Og.leaves QX).all aA = true := by kernel_rfl
theorem aax : (Lj.leaves QN).all aA = true := by kernel_rfl
theorem aaO : (PU.leaves U1).all aA = true := by kernel_rfl
theorem adH : (OE.leaves U2).all aA = true := by kernel_rfl
theorem aeM : (P5.leaves Ru).all aA = true := by kernel_rfl
theorem a9M : (NY.leaves Rl).all aA = true := by kernel_rfl
theorem agZ : (NW.leaves QT).all aA = true := by kernel_rfl
theorem aa8 : (LW.leaves SB).all aA = true := by kernel_rfl
theorem a9L : (LD.leaves QV).all aA = true := by kernel_rfl
theorem afD : (LU.leaves QG).all aA = true := by kernel_rfl
theorem acP : (MI.leaves Qs).all aA = true := by kernel_rfl
theorem aav : (Nr.leaves TG).all aA = true := by kernel_rfl
theorem aaS : (Oa.leaves SS).all aA = true := by kernel_rfl
theorem abA : (OY.leaves Qv).all aA = true := by kernel_rfl
theorem abV : (Om.leaves QD).all aA = true := by kernel_rfl
theorem abQ : (NJ.leaves U7).all aA = true := by kernel_rfl
theorem acz : (Pn.leaves RP).all aA = true := by kernel_rfl
theorem a9T : (Lm.leaves RQ).all aA = true := by kernel_rfl
theorem agr : (Kq.leaves QF).all aA = true := by kernel_rfl
theorem a9w : (OM.leaves RG).all aA = true := by kernel_rfl
theorem ad3 : (PV.leaves RU).all aA = true := by kernel_rfl
theorem afM : (O1.leaves TN).all aA = true := by kernel_rfl
theorem ahj : (KX.leaves U4).all aA = true := by kernel_rfl
theorem acZ : (Oi.leaves TI).all aA = true := by kernel_rfl
theorem aaJ : (MR.leaves U5).all aA = true := by kernel_rfl
theorem a8o : (Dv.leaves GR).all aA = true := by kernel_rfl
theorem a7U : (Dx.leaves Hq).all aA = true := by kernel_rfl
theorem a8m : (CV.leaves Hg).all aA = true := by kernel_rfl
theorem a6x : (CQ.leaves Gs).all aA = true := by kernel_rfl
theorem a6O : (Dn.leaves GH).all aA = true := by kernel_rfl
theorem a4j : (DL.leaves FW).all aA = true := by kernel_rfl
theorem ajj : (PZ.leaves OZ).all aA = true := by
 have e : PZ.leaves OZ = Zt.leaves a7X ++ ZB.leaves a7Z := rfl
 rw [e]
 simp only [apu, ahP, ahL, apv]
theorem ak0 : (Ql.leaves O6).all aA = true := by
 have e : Ql.leaves O6 = a0P.leaves a7k ++ PZ.leaves OZ := rfl
 rw [e]
 simp only [apu, ake, ajj, apv]
theorem ajI : (Qb.leaves LH).all aA = true := by
 have e : Qb.leaves LH = a0v.leaves a5x ++ Ql.leaves O6 := rfl
 rw [e]
 simp only [apu, ahz, ak0, apv]
theorem ahp : (Ae.leaves yK).all aA = true := by
 have e : Ae.leaves yK = KT.leaves Rj ++ NT.leaves TW := rfl
 rw [e]
 simp only [apu, adr, aez, apv]
theorem afa : (Cc.leaves xk).all aA = true := by
 have e : Cc.leaves xk = OL.leaves Tv ++ Ae.leaves yK := rfl
 rw [e]
 simp only [apu, aeW, ahp, apv]
theorem adJ : (BQ.leaves yE).all aA = true := by
 have e : BQ.leaves yE = MP.leaves QM ++ Cc.leaves xk := rfl
 rw [e]
 simp only [apu, a9N, afa, apv]
theorem a8K : (Bf.leaves wC).all aA = true := by
 have e : Bf.leaves wC = BQ.leaves yE ++ OT.leaves Tt := rfl
 rw [e]
 simp only [apu, adJ, af5, apv]
theorem adW : (AZ.leaves yx).all aA = true := by
 have e : AZ.leaves yx = Lp.leaves SV ++ O9.leaves RZ := rfl
 rw [e]
 simp only [apu, afr, aaf, apv]
theorem afj : (BZ.leaves wR).all aA = true := by
 have e : BZ.leaves wR = Pj.leaves U3 ++ AZ.leaves yx := rfl
 rw [e]
 simp only [apu, afw, adW, apv]
theorem agy : (BH.leaves yg).all aA = true := by
 have e : BH.leaves yg = L9.leaves Qz ++ BZ.leaves wR := rfl
 rw [e]
 simp only [apu, ag3, afj, apv]
theorem aaQ : (BF.leaves yN).all aA = true := by
 have e : BF.leaves yN = BH.leaves yg ++ NG.leaves QU := rfl
 rw [e]
 simp only [apu, agy, a9h, apv]
theorem a9Z : (BL.leaves yM).all aA = true := by
 have e : BL.leaves yM = BF.leaves yN ++ P8.leaves TM := rfl
 rw [e]
 simp only [apu, aaQ, a8R, apv]
theorem agl : (BR.leaves zh).all aA = true := by
 have e : BR.leaves zh = OQ.leaves U6 ++ BL.leaves yM := rfl
 rw [e]
 simp only [apu, agd, a9Z, apv]
theorem agu : (Ap.leaves yj).all aA = true := by
 have e : Ap.leaves yj = BR.leaves zh ++ PK.leaves Sr := rfl
 rw [e]
 simp only [apu, agl, aaq, apv]
theorem ac2 : (BP.leaves zi).all aA = true := by
 have e : BP.leaves zi = KA.leaves Tf ++ Ap.leaves yj := rfl
 rw [e]
 simp only [apu, afc, agu, apv]
theorem aes : (Bq.leaves zk).all aA = true := by
 have e : Bq.leaves zk = Lj.leaves QN ++ PU.leaves U1 := rfl
 rw [e]
 simp only [apu, aax, aaO, apv]
theorem ahh : (Aj.leaves wK).all aA = true := by
 have e : Aj.leaves wK = Og.leaves QX ++ Bq.leaves zk := rfl
 rw [e]
 simp only [apu, abq, aes, apv]
theorem agP : (BJ.leaves yQ).all aA = true := by
 have e : BJ.leaves yQ = Lu.leaves TJ ++ Aj.leaves wK := rfl
 rw [e]
 simp only [apu, adY, ahh, apv]
theorem afs : (BK.leaves yX).all aA = true := by
 have e : BK.leaves yX = BJ.leaves yQ ++ OE.leaves U2 := rfl
 rw [e]
 simp only [apu, agP, adH, apv]
theorem a9X : (AU.leaves xE).all aA = true := by
 have e : AU.leaves xE = BK.leaves yX ++ P5.leaves Ru := rfl
 rw [e]
 simp only [apu, afs, aeM, apv]
theorem abO : (Au.leaves yD).all aA = true := by
 have e : Au.leaves yD = Ny.leaves QO ++ AU.leaves xE := rfl
 rw [e]
 simp only [apu, ac3, a9X, apv]
theorem ag0 : (BM.leaves yC).all aA = true := by
 have e : BM.leaves yC = Au.leaves yD ++ NY.leaves Rl := rfl
 rw [e]
 simp only [apu, abO, a9M, apv]
theorem ae3 : (Bg.leaves wX).all aA = true := by
 have e : Bg.leaves wX = MF.leaves TK ++ BM.leaves yC := rfl
 rw [e]
 simp only [apu, a8I, ag0, apv]
theorem adA : (BI.leaves y8).all aA = true := by
 have e : BI.leaves y8 = Bg.leaves wX ++ NW.leaves QT := rfl
 rw [e]
 simp only [apu, ae3, agZ, apv]
theorem a98 : (Bc.leaves yJ).all aA = true := by
 have e : Bc.leaves yJ = BP.leaves zi ++ BI.leaves y8 := rfl
 rw [e]
 simp only [apu, ac2, adA, apv]
theorem aeb : (Ai.leaves yF).all aA = true := by
 have e : Ai.leaves yF = Bf.leaves wC ++ Bc.leaves yJ := rfl
 rw [e]
 simp only [apu, a8K, a98, apv]
theorem abR : (Bv.leaves wP).all aA = true := by
 have e : Bv.leaves wP = KO.leaves SY ++ Ai.leaves yF := rfl
 rw [e]
 simp only [apu, afO, aeb, apv]
theorem abT : (AQ.leaves xB).all aA = true := by
 have e : AQ.leaves xB = LU.leaves QG ++ MI.leaves Qs := rfl
 rw [e]
 simp only [apu, afD, acP, apv]
theorem ahf : (Ba.leaves yL).all aA = true := by
 have e : Ba.leaves yL = LD.leaves QV ++ AQ.leaves xB := rfl
 rw [e]
 simp only [apu, a9L, abT, apv]
theorem a8X : (Ar.leaves wE).all aA = true := by
 have e : Ar.leaves wE = Ba.leaves yL ++ Nr.leaves TG := rfl
 rw [e]
 simp only [apu, ahf, aav, apv]
theorem afB : (Bj.leaves xC).all aA = true := by
 have e : Bj.leaves xC = NJ.leaves U7 ++ Pn.leaves RP := rfl
 rw [e]
 simp only [apu, abQ, acz, apv]
theorem a8F : (AP.leaves wO).all aA = true := by
 have e : AP.leaves wO = Om.leaves QD ++ Bj.leaves xC := rfl
 rw [e]
 simp only [apu, abV, afB, apv]
theorem aei : (BX.leaves wQ).all aA = true := by
 have e : BX.leaves wQ = AP.leaves wO ++ Lm.leaves RQ := rfl
 rw [e]
 simp only [apu, a8F, a9T, apv]
theorem aaW : (C9.leaves yY).all aA = true := by
 have e : C9.leaves yY = BX.leaves wQ ++ Kq.leaves QF := rfl
 rw [e]
 simp only [apu, aei, agr, apv]
theorem aeT : (Ah.leaves yw).all aA = true := by
 have e : Ah.leaves yw = OY.leaves Qv ++ C9.leaves yY := rfl
 rw [e]
 simp only [apu, abA, aaW, apv]
theorem abX : (AB.leaves yt).all aA = true := by
 have e : AB.leaves yt = Ah.leaves yw ++ OM.leaves RG := rfl
 rw [e]
 simp only [apu, aeT, a9w, apv]
theorem aeN : (AV.leaves yc).all aA = true := by
 have e : AV.leaves yc = Oa.leaves SS ++ AB.leaves yt := rfl
 rw [e]
 simp only [apu, aaS, abX, apv]
theorem a9i : (Bo.leaves xW).all aA = true := by
 have e : Bo.leaves xW = Oi.leaves TI ++ MR.leaves U5 := rfl
 rw [e]
 simp only [apu, acZ, aaJ, apv]
theorem abK : (Cb.leaves yB).all aA = true := by
 have e : Cb.leaves yB = KX.leaves U4 ++ Bo.leaves xW := rfl
 rw [e]
 simp only [apu, ahj, a9i, apv]
theorem adw : (Aw.leaves xX).all aA = true := by
 have e : Aw.leaves xX = Cb.leaves yB ++ Dv.leaves GR := rfl
 rw [e]
 simp only [apu, abK, a8o, apv]
theorem aed : (Bz.leaves wS).all aA = true := by
 have e : Bz.leaves wS = Aw.leaves xX ++ Dx.leaves Hq := rfl
 rw [e]
 simp only [apu, adw, a7U, apv]
theorem ac0 : (BN.leaves xP).all aA = true := by
 have e : BN.leaves xP = O1.leaves TN ++ Bz.leaves wS := rfl
 rw [e]
 simp only [apu, afM, aed, apv]
theorem adP : (BU.leaves xA).all aA = true := by
 have e : BU.leaves xA = BN.leaves xP ++ CV.leaves Hg := rfl
 rw [e]
 simp only [apu, ac0, a8m, apv]
theorem abu : (AY.leaves y9).all aA = true := by
 have e : AY.leaves y9 = PV.leaves RU ++ BU.leaves xA := rfl
 rw [e]
 simp only [apu, ad3, adP, apv]
theorem aaR : (Aq.leaves zl).all aA = true := by
 have e : Aq.leaves zl = AY.leaves y9 ++ CQ.leaves Gs := rfl
 rw [e]
 simp only [apu, abu, a6x, apv]
theorem afG : (Ce.leaves yU).all aA = true := by
 have e : Ce.leaves yU = AV.leaves yc ++ Aq.leaves zl := rfl
 rw [e]
 simp only [apu, aeN, aaR, apv]
theorem acu : (AO.leaves wZ).all aA = true := by
 have e : AO.leaves wZ = Ar.leaves wE ++ Ce.leaves yU := rfl
 rw [e]
 simp only [apu, a8X, afG, apv]
theorem a9y : (Bh.leaves xY).all aA = true := by
 have e : Bh.leaves xY = LW.leaves SB ++ AO.leaves wZ := rfl
 rw [e]
 simp only [apu, aa8, acu, apv]
theorem a5A : (tq.leaves qK).all aA = true := by
 have e : tq.leaves qK = Dn.leaves GH ++ DL.leaves FW := rfl
 rw [e]
 simp only [apu, a6O, a4j, apv]
theorem abB : (AA.leaves xg).all aA = true := by
 have e : AA.leaves xg = Bh.leaves xY ++ tq.leaves qK := rfl
 rw [e]
 simp only [apu, a9y, a5A, apv]
theorem acR : (Ag.leaves wY).all aA = true := by
 have e : Ag.leaves wY = Bv.leaves wP ++ AA.leaves xg := rfl
 rw [e]
 simp only [apu, abR, abB, apv]
theorem aiQ : (Qa.leaves Nw).all aA = true := by
 have e : Qa.leaves Nw = Qb.leaves LH ++ Ag.leaves wY := rfl
 rw [e]
 simp only [apu, ajI, acR, apv]
theorem aix : (Un.leaves Xu).all aA = true := by
 have e : Un.leaves Xu = a1f.leaves a4A ++ Qa.leaves Nw := rfl
 rw [e]
 simp only [apu, akk, aiQ, apv]
theorem a5w : Tests Tryz.prog Ad 137 kRv (nM 0) .bool := o9 afl (fun L => low4 (L.know (fD 0 kRv))) (fun _ {_ _} h k => CX (uJ default (Lf.ok h k))) (sp := Un) aix
def ZI (K : Know) : aS := fun f a h fl => orR (tO 95 kPl (dS 0) m8 K f a h fl) ( orR (tO 127 kPl (dS 0) m8 K f a h fl) ( orR (tO 97 kOp (aY 0) m8 K f a h fl) ( orR (tO 129 kOp (aY 0) m8 K f a h fl) ( orR (tO 96 kRv (nM 0) m8 K f a h fl) ( orR (tO 128 kRv (nM 0) m8 K f a h fl) (tO 137 kRv (nM 0) mB K f a h fl))))))
theorem EK (b : Base) : @Sound b Tryz.prog (ZI b.toKnow) := @dZ b _ _ _ (jQ b ⟨_, Tryz.func95, by kernel_rfl, by kernel_rfl⟩ uj) ( @dZ b _ _ _ (jQ b ⟨_, Tryz.func127, by kernel_rfl, by kernel_rfl⟩ zX) ( @dZ b _ _ _ (jQ b ⟨_, Tryz.func97, by kernel_rfl, by kernel_rfl⟩ uK) ( @dZ b _ _ _ (jQ b ⟨_, Tryz.func129, by kernel_rfl, by kernel_rfl⟩ uh) ( @dZ b _ _ _ (jQ b ⟨_, Tryz.func96, by kernel_rfl, by kernel_rfl⟩ Rk) ( @dZ b _ _ _ (jQ b ⟨_, Tryz.func128, by kernel_rfl, by kernel_rfl⟩ TR) (Y4 b ⟨_, Tryz.func137, by kernel_rfl, by kernel_rfl⟩ a5w))))))
end Am
end Go.Proofs.YtglmonlofejcgaaGreatDoor
