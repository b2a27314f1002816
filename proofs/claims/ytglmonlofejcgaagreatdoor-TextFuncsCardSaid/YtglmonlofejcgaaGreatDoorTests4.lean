/- Places, operands, rvalues: which are valid; the program's and the reference's answers by that test. -/
import Derived.Test.YtglmonlofejcgaaGreatDoorAmC
import Derived.Test.YtglmonlofejcgaaGreatDoorLn
set_option maxRecDepth 100000
namespace Go.Proofs.YtglmonlofejcgaaGreatDoor.Am
open Go.RowKit
def E.ands : List E -> E
 | [] => .zero []
 | [e] => e
 | e :: r => .and e (E.ands r)
def zs (o n : Nat) : List (Nat × Int) := (List.range n).map fun i => (o + i, 0)
def fU (o : Nat) : E := .ands [.not (.lt o 0), .lt o 16, .lt (o + 2) 3]
def bn (o : Nat) : E := .or (.and (.zero [(o, 1)]) (.zero (zs (o + 2) 3))) (.ands [.or (.zero [(o, 2)]) (.zero [(o, 3)]), .zero [(o + 1, 0)], fU (o + 2)])
def qB (o : Nat) : E :=
 .or (.ands [.zero [(o, 1)], bn (o + 3), .zero (zs (o + 8) 5), .zero (zs (o + 13) 3), .zero [(o + 1, 0)], .zero [(o + 2, 0)]])
 (.or (.ands [.zero [(o, 2)], bn (o + 3), bn (o + 8), .zero (zs (o + 13) 3), .not (.lt (o + 1) 1), .lt (o + 1) 7, .zero [(o + 2, 0)]])
 (.or (.ands [.zero [(o, 3)], bn (o + 3), bn (o + 8), .zero (zs (o + 13) 3), .zero [(o + 1, 0)], .zero [(o + 2, 0)]])
 (.or (.ands [.zero [(o, 4)], .zero (zs (o + 3) 5), .zero (zs (o + 8) 5), fU (o + 13), .zero [(o + 1, 0)], .not (.lt (o + 2) 1), .lt (o + 2) 4])
 (.ands [.zero [(o, 5)], .zero (zs (o + 3) 5), .zero (zs (o + 8) 5), fU (o + 13), .zero [(o + 1, 0)], .zero [(o + 2, 0)]]))))
abbrev kPl : List Kd := [.i .i64, .b, .i .u8]
abbrev kOp : List Kd := .i .u8 :: .i .i64 :: kPl
abbrev kRv : List Kd := .i .u8 :: .i .u8 :: .i .u8 :: (kOp ++ (kOp ++ kPl))
def v8 (b : Bool) : Value := .int .i64 (bif b then 0 else 8)
def m8 (b : Bool) : V := V.s (.int .i64 (bif b then 0 else 8))
def mB (b : Bool) : V := V.s (.bool b)
theorem Gi (b0 : Base) (r : Ren) (b : Bool) (u : Value) (h : @VV b0 r (m8 b) u) : u = v8 b := h
theorem a6E (b0 : Base) (r : Ren) (b : Bool) (u : Value) (h : @VV b0 r (mB b) u) : u = .bool b := h
abbrev zk : World -> Prop := fun _ => True
section
variable {F : FuncId} {ks : List Kd} {e : E} {val : Bool -> Value}
theorem mZ {mk : Bool -> V} (hmk : ∀ (b0 : Base) r b u, @VV b0 r (mk b) u -> u = val b) (lib : Lf -> aS)
  (hl : ∀ (L : Lf) {rho : Nat -> Int} {sig : Nat -> List UInt8} (h : L.Holds rho sig) (k : Lens (eG 0 ks) rho sig), @Sound (sZ default (Lf.ok h k)) Tryz.prog (lib L)) {sp : Sp}
  (hrun : ((sp.leaves (Lf.start [(true, ks)])).all fun L => nC e mk ks L (@runs (L.know (eG 0 ks)) (lM Tryz.prog) (lZ Tryz.prog) (lib L) 30 15 F [.g ((bZ 0 ks).map L.nS)] ⟨[], 0⟩ 0)) = true) : Tests Tryz.prog zk F ks e val :=
 fun us hk w _ => a8H (nb := 0) (w0 := default) (fun L => @runs (L.know (eG 0 ks)) (lM Tryz.prog) (lZ Tryz.prog) (lib L) 30 15) mk hmk
  (fun L {rho sig} h k d => @qL default _ rho sig (Lf.ok h k) _ (hl L h k) 30 15) hrun us hk w ⟨Nat.zero_le _, fun _ h => by cases h⟩
noncomputable def tO (F : FuncId) (ks : List Kd) (e : E) (mk : Bool -> V) (K : Know) : aS := qj F (@acr K ks e mk)
theorem jE (b : Base) (hc : dB Tryz.prog F) (h : Tests Tryz.prog zk F ks e v8) : @Sound b Tryz.prog (tO F ks e m8 b.toKnow) := @KL b Tryz.prog zk F hc ks e v8 h (fun _ _ => trivial) m8 (fun _ _ => rfl)
theorem Vt (b : Base) (hc : dB Tryz.prog F) (h : Tests Tryz.prog zk F ks e .bool) : @Sound b Tryz.prog (tO F ks e mB b.toKnow) := @KL b Tryz.prog zk F hc ks e .bool h (fun _ _ => trivial) mB (fun _ _ => rfl)
end
noncomputable def al8 : Lf := Lf.start [(true, kPl)]
def ah5 : Sp := (.cut 0 0 .leaf (.cut 0 16 (.cut 2 3 .leaf .leaf) .leaf))
noncomputable def a9t (L : Lf) : Bool := nC (fU 0) m8 kPl L (@runs (L.know (eG 0 kPl)) (lM Tryz.prog) (lZ Tryz.prog) (qx) 30 15 95 [.g ((bZ 0 kPl).map L.nS)] ⟨[], 0⟩ 0)
theorem agB : (ah5.leaves al8).all a9t = true := by kernel_rfl
theorem rW : Tests Tryz.prog zk 95 kPl (fU 0) v8 := mZ Gi (fun _ => qx) (fun _ {_ _} h k => lD (Lf.ok h k)) (sp := ah5) agB
noncomputable def ach (L : Lf) : Bool := nC (fU 0) m8 kPl L (@runs (L.know (eG 0 kPl)) (lM Tryz.prog) (lZ Tryz.prog) (qx) 30 15 127 [.g ((bZ 0 kPl).map L.nS)] ⟨[], 0⟩ 0)
theorem ahU : (ah5.leaves al8).all ach = true := by kernel_rfl
theorem yH : Tests Tryz.prog zk 127 kPl (fU 0) v8 := mZ Gi (fun _ => qx) (fun _ {_ _} h k => lD (Lf.ok h k)) (sp := ah5) ahU
noncomputable def alB : Lf := Lf.start [(true, kOp)]
def agb : Sp := (.cut 0 1 .leaf (.cut 0 2 (.conj [(2, 0), (3, 0), (4, 0)] .leaf .leaf) (.cut 0 3 (.cut 1 0 .leaf (.cut 1 1 (.cut 2 0 .leaf (.cut 2 16 (.cut 4 3 .leaf .leaf) .leaf)) .leaf)) (.cut 0 4 (.cut 1 0 .leaf (.cut 1 1 (.cut 2 0 .leaf (.cut 2 16 (.cut 4 3 .leaf .leaf) .leaf)) .leaf)) .leaf))))
noncomputable def a8e (L : Lf) : Bool := nC (bn 0) m8 kOp L (@runs (L.know (eG 0 kOp)) (lM Tryz.prog) (lZ Tryz.prog) (qx) 30 15 97 [.g ((bZ 0 kOp).map L.nS)] ⟨[], 0⟩ 0)
theorem afq : (agb.leaves alB).all a8e = true := by kernel_rfl
theorem sO : Tests Tryz.prog zk 97 kOp (bn 0) v8 := mZ Gi (fun _ => qx) (fun _ {_ _} h k => lD (Lf.ok h k)) (sp := agb) afq
noncomputable def a8G (L : Lf) : Bool := nC (bn 0) m8 kOp L (@runs (L.know (eG 0 kOp)) (lM Tryz.prog) (lZ Tryz.prog) (qx) 30 15 129 [.g ((bZ 0 kOp).map L.nS)] ⟨[], 0⟩ 0)
theorem ahw : (agb.leaves alB).all a8G = true := by kernel_rfl
theorem tu : Tests Tryz.prog zk 129 kOp (bn 0) v8 := mZ Gi (fun _ => qx) (fun _ {_ _} h k => lD (Lf.ok h k)) (sp := agb) ahw
noncomputable def low4 (K : Know) : aS := fun f a h fl => orR (tO 95 kPl (fU 0) m8 K f a h fl) ( orR (tO 127 kPl (fU 0) m8 K f a h fl) ( orR (tO 97 kOp (bn 0) m8 K f a h fl) (tO 129 kOp (bn 0) m8 K f a h fl)))
theorem BH (b : Base) : @Sound b Tryz.prog (low4 b.toKnow) := @dU b _ _ _ (jE b ⟨_, Tryz.func95, by kernel_rfl, by kernel_rfl⟩ rW) ( @dU b _ _ _ (jE b ⟨_, Tryz.func127, by kernel_rfl, by kernel_rfl⟩ yH) ( @dU b _ _ _ (jE b ⟨_, Tryz.func97, by kernel_rfl, by kernel_rfl⟩ sO) (jE b ⟨_, Tryz.func129, by kernel_rfl, by kernel_rfl⟩ tu)))
noncomputable def VE : Lf := Lf.start [(true, kRv)]
noncomputable def a4j : Lf := (VE.hi 0 (1 - 1))
def Z4 : Sp := .leaf
noncomputable def NP : Lf := (VE.lo 0 1)
noncomputable def JV : Lf := (NP.hi 0 (2 - 1))
noncomputable def a2A : Lf := (JV.hi 3 (1 - 1))
def YZ : Sp := .leaf
noncomputable def J6 : Lf := (JV.lo 3 1)
noncomputable def a1R : Lf := (J6.hi 3 (2 - 1))
def YU : Sp := (.conj [(5, 0), (6, 0), (7, 0)] (.conj [(1, 0), (2, 0), (8, 0), (9, 0), (10, 0), (11, 0), (12, 0), (13, 0), (14, 0), (15, 0)] .leaf (.conj [(8, 0), (9, 0), (10, 0), (11, 0), (12, 0)] (.conj [(1, 0), (2, 0), (13, 0), (14, 0), (15, 0)] .leaf (.conj [(13, 0), (14, 0), (15, 0)] (.conj [(1, 0), (2, 0)] .leaf (.cut 1 1 (.cut 2 1 .leaf .leaf) .leaf)) .leaf)) .leaf)) .leaf)
noncomputable def Me : Lf := (J6.lo 3 2)
noncomputable def a5E : Lf := (Me.hi 3 (3 - 1))
def Ye : Sp := (.cut 4 0 .leaf (.cut 4 1 (.cut 5 0 .leaf (.cut 5 16 (.cut 7 3 (.conj [(1, 0), (2, 0), (8, 0), (9, 0), (10, 0), (11, 0), (12, 0), (13, 0), (14, 0), (15, 0)] .leaf (.conj [(8, 0), (9, 0), (10, 0), (11, 0), (12, 0)] (.conj [(1, 0), (2, 0), (13, 0), (14, 0), (15, 0)] .leaf (.conj [(13, 0), (14, 0), (15, 0)] (.conj [(1, 0), (2, 0)] .leaf (.cut 1 1 (.cut 2 1 .leaf .leaf) .leaf)) .leaf)) .leaf)) .leaf) .leaf)) .leaf))
noncomputable def a2F : Lf := (Me.lo 3 3)
def XJ : Sp := (.cut 3 4 (.cut 4 0 .leaf (.cut 4 1 (.cut 5 0 .leaf (.cut 5 16 (.cut 7 3 (.conj [(1, 0), (2, 0), (8, 0), (9, 0), (10, 0), (11, 0), (12, 0), (13, 0), (14, 0), (15, 0)] .leaf (.conj [(8, 0), (9, 0), (10, 0), (11, 0), (12, 0)] (.conj [(1, 0), (2, 0), (13, 0), (14, 0), (15, 0)] .leaf (.conj [(13, 0), (14, 0), (15, 0)] (.conj [(1, 0), (2, 0)] .leaf (.cut 1 1 (.cut 2 1 .leaf .leaf) .leaf)) .leaf)) .leaf)) .leaf) .leaf)) .leaf)) .leaf)
def O5 : Sp := .cut 3 3 Ye XJ
def O6 : Sp := .cut 3 2 YU O5
def O8 : Sp := .cut 3 1 YZ O6
noncomputable def xW : Lf := (NP.lo 0 2)
noncomputable def wL : Lf := (xW.hi 0 (3 - 1))
noncomputable def Qd : Lf := (wL.hi 3 (1 - 1))
def KY : Sp := .leaf
noncomputable def vP : Lf := (wL.lo 3 1)
noncomputable def uT : Lf := (vP.hi 3 (2 - 1))
noncomputable def yB : Lf := (uT.all [(5, 0), (6, 0), (7, 0)])
noncomputable def Qu : Lf := (yB.hi 8 (1 - 1))
def NR : Sp := .leaf
noncomputable def vX : Lf := (yB.lo 8 1)
noncomputable def P6 : Lf := (vX.hi 8 (2 - 1))
def LV : Sp := (.conj [(10, 0), (11, 0), (12, 0)] (.cut 1 1 (.conj [(13, 0), (14, 0), (15, 0)] .leaf .leaf) (.cut 1 7 (.conj [(2, 0), (13, 0), (14, 0), (15, 0)] .leaf (.conj [(13, 0), (14, 0), (15, 0)] (.cut 2 1 .leaf .leaf) .leaf)) (.conj [(13, 0), (14, 0), (15, 0)] .leaf .leaf))) .leaf)
noncomputable def wZ : Lf := (vX.lo 8 2)
noncomputable def Ph : Lf := (wZ.hi 8 (3 - 1))
def NS : Sp := (.cut 9 0 .leaf (.cut 9 1 (.cut 10 0 .leaf (.cut 10 16 (.cut 12 3 (.cut 1 1 (.conj [(13, 0), (14, 0), (15, 0)] .leaf .leaf) (.cut 1 7 (.conj [(2, 0), (13, 0), (14, 0), (15, 0)] .leaf (.conj [(13, 0), (14, 0), (15, 0)] (.cut 2 1 .leaf .leaf) .leaf)) (.conj [(13, 0), (14, 0), (15, 0)] .leaf .leaf))) .leaf) .leaf)) .leaf))
noncomputable def Qa : Lf := (wZ.lo 8 3)
def Nw : Sp := (.cut 8 4 (.cut 9 0 .leaf (.cut 9 1 (.cut 10 0 .leaf (.cut 10 16 (.cut 12 3 (.cut 1 1 (.conj [(13, 0), (14, 0), (15, 0)] .leaf .leaf) (.cut 1 7 (.conj [(2, 0), (13, 0), (14, 0), (15, 0)] .leaf (.conj [(13, 0), (14, 0), (15, 0)] (.cut 2 1 .leaf .leaf) .leaf)) (.conj [(13, 0), (14, 0), (15, 0)] .leaf .leaf))) .leaf) .leaf)) .leaf)) .leaf)
def Ae : Sp := .cut 8 3 NS Nw
def zQ : Sp := .cut 8 2 LV Ae
def Ai : Sp := .cut 8 1 NR zQ
noncomputable def PZ : Lf := { uT with cf := [(5, 0), (6, 0), (7, 0)] :: uT.cf }
def KD : Sp := .leaf
def zu : Sp := .conj [(5, 0), (6, 0), (7, 0)] Ai KD
noncomputable def xO : Lf := (vP.lo 3 2)
noncomputable def y8 : Lf := (xO.hi 3 (3 - 1))
noncomputable def Pg : Lf := (y8.hi 4 (0 - 1))
def JD : Sp := .leaf
noncomputable def xC : Lf := (y8.lo 4 0)
noncomputable def vU : Lf := (xC.hi 4 (1 - 1))
noncomputable def QG : Lf := (vU.hi 5 (0 - 1))
def KE : Sp := .leaf
noncomputable def y9 : Lf := (vU.lo 5 0)
noncomputable def xY : Lf := (y9.hi 5 (16 - 1))
noncomputable def yc : Lf := (xY.hi 7 (3 - 1))
noncomputable def Q7 : Lf := (yc.hi 8 (1 - 1))
def JJ : Sp := .leaf
noncomputable def xP : Lf := (yc.lo 8 1)
noncomputable def Oq : Lf := (xP.hi 8 (2 - 1))
def IQ : Sp := (.conj [(10, 0), (11, 0), (12, 0)] (.cut 1 1 (.conj [(13, 0), (14, 0), (15, 0)] .leaf .leaf) (.cut 1 7 (.conj [(2, 0), (13, 0), (14, 0), (15, 0)] .leaf (.conj [(13, 0), (14, 0), (15, 0)] (.cut 2 1 .leaf .leaf) .leaf)) (.conj [(13, 0), (14, 0), (15, 0)] .leaf .leaf))) .leaf)
noncomputable def vI : Lf := (xP.lo 8 2)
noncomputable def QO : Lf := (vI.hi 8 (3 - 1))
def Jr : Sp := (.cut 9 0 .leaf (.cut 9 1 (.cut 10 0 .leaf (.cut 10 16 (.cut 12 3 (.cut 1 1 (.conj [(13, 0), (14, 0), (15, 0)] .leaf .leaf) (.cut 1 7 (.conj [(2, 0), (13, 0), (14, 0), (15, 0)] .leaf (.conj [(13, 0), (14, 0), (15, 0)] (.cut 2 1 .leaf .leaf) .leaf)) (.conj [(13, 0), (14, 0), (15, 0)] .leaf .leaf))) .leaf) .leaf)) .leaf))
noncomputable def QJ : Lf := (vI.lo 8 3)
def JM : Sp := (.cut 8 4 (.cut 9 0 .leaf (.cut 9 1 (.cut 10 0 .leaf (.cut 10 16 (.cut 12 3 (.cut 1 1 (.conj [(13, 0), (14, 0), (15, 0)] .leaf .leaf) (.cut 1 7 (.conj [(2, 0), (13, 0), (14, 0), (15, 0)] .leaf (.conj [(13, 0), (14, 0), (15, 0)] (.cut 2 1 .leaf .leaf) .leaf)) (.conj [(13, 0), (14, 0), (15, 0)] .leaf .leaf))) .leaf) .leaf)) .leaf)) .leaf)
def Ah : Sp := .cut 8 3 Jr JM
def Af : Sp := .cut 8 2 IQ Ah
def zl : Sp := .cut 8 1 JJ Af
noncomputable def OI : Lf := (xY.lo 7 3)
def MR : Sp := .leaf
def AP : Sp := .cut 7 3 zl MR
noncomputable def QV : Lf := (y9.lo 5 16)
def JI : Sp := .leaf
def AA : Sp := .cut 5 16 AP JI
def AY : Sp := .cut 5 0 KE AA
noncomputable def Qz : Lf := (xC.lo 4 1)
def Ll : Sp := .leaf
def A8 : Sp := .cut 4 1 AY Ll
def zN : Sp := .cut 4 0 JD A8
noncomputable def xq : Lf := (xO.lo 3 3)
noncomputable def yh : Lf := (xq.hi 3 (4 - 1))
noncomputable def QW : Lf := (yh.hi 4 (0 - 1))
def JE : Sp := .leaf
noncomputable def wI : Lf := (yh.lo 4 0)
noncomputable def xk : Lf := (wI.hi 4 (1 - 1))
noncomputable def QL : Lf := (xk.hi 5 (0 - 1))
def Nv : Sp := .leaf
noncomputable def xH : Lf := (xk.lo 5 0)
noncomputable def yg : Lf := (xH.hi 5 (16 - 1))
noncomputable def wH : Lf := (yg.hi 7 (3 - 1))
noncomputable def OM : Lf := (wH.hi 8 (1 - 1))
def MK : Sp := .leaf
noncomputable def xu : Lf := (wH.lo 8 1)
noncomputable def Om : Lf := (xu.hi 8 (2 - 1))
def MQ : Sp := (.conj [(10, 0), (11, 0), (12, 0)] (.cut 1 1 (.conj [(13, 0), (14, 0), (15, 0)] .leaf .leaf) (.cut 1 7 (.conj [(2, 0), (13, 0), (14, 0), (15, 0)] .leaf (.conj [(13, 0), (14, 0), (15, 0)] (.cut 2 1 .leaf .leaf) .leaf)) (.conj [(13, 0), (14, 0), (15, 0)] .leaf .leaf))) .leaf)
noncomputable def vV : Lf := (xu.lo 8 2)
noncomputable def OO : Lf := (vV.hi 8 (3 - 1))
def Nj : Sp := (.cut 9 0 .leaf (.cut 9 1 (.cut 10 0 .leaf (.cut 10 16 (.cut 12 3 (.cut 1 1 (.conj [(13, 0), (14, 0), (15, 0)] .leaf .leaf) (.cut 1 7 (.conj [(2, 0), (13, 0), (14, 0), (15, 0)] .leaf (.conj [(13, 0), (14, 0), (15, 0)] (.cut 2 1 .leaf .leaf) .leaf)) (.conj [(13, 0), (14, 0), (15, 0)] .leaf .leaf))) .leaf) .leaf)) .leaf))
noncomputable def OC : Lf := (vV.lo 8 3)
def JW : Sp := (.cut 8 4 (.cut 9 0 .leaf (.cut 9 1 (.cut 10 0 .leaf (.cut 10 16 (.cut 12 3 (.cut 1 1 (.conj [(13, 0), (14, 0), (15, 0)] .leaf .leaf) (.cut 1 7 (.conj [(2, 0), (13, 0), (14, 0), (15, 0)] .leaf (.conj [(13, 0), (14, 0), (15, 0)] (.cut 2 1 .leaf .leaf) .leaf)) (.conj [(13, 0), (14, 0), (15, 0)] .leaf .leaf))) .leaf) .leaf)) .leaf)) .leaf)
def zD : Sp := .cut 8 3 Nj JW
def zI : Sp := .cut 8 2 MQ zD
def Ap : Sp := .cut 8 1 MK zI
noncomputable def Oy : Lf := (yg.lo 7 3)
def JO : Sp := .leaf
def zV : Sp := .cut 7 3 Ap JO
noncomputable def P5 : Lf := (xH.lo 5 16)
def JX : Sp := .leaf
def Ad : Sp := .cut 5 16 zV JX
def AL : Sp := .cut 5 0 Nv Ad
noncomputable def Q9 : Lf := (wI.lo 4 1)
def KF : Sp := .leaf
def AB : Sp := .cut 4 1 AL KF
def zK : Sp := .cut 4 0 JE AB
noncomputable def OZ : Lf := (xq.lo 3 4)
def Nb : Sp := .leaf
def zZ : Sp := .cut 3 4 zK Nb
def Ag : Sp := .cut 3 3 zN zZ
def zF : Sp := .cut 3 2 zu Ag
def zy : Sp := .cut 3 1 KY zF
noncomputable def wG : Lf := (xW.lo 0 3)
noncomputable def xM : Lf := (wG.hi 0 (4 - 1))
noncomputable def QB : Lf := (xM.hi 3 (1 - 1))
def MB : Sp := .leaf
noncomputable def xB : Lf := (xM.lo 3 1)
noncomputable def uP : Lf := (xB.hi 3 (2 - 1))
noncomputable def yu : Lf := (uP.all [(5, 0), (6, 0), (7, 0)])
noncomputable def Qp : Lf := (yu.hi 8 (1 - 1))
def Jl : Sp := .leaf
noncomputable def wM : Lf := (yu.lo 8 1)
noncomputable def OX : Lf := (wM.hi 8 (2 - 1))
def Na : Sp := (.conj [(10, 0), (11, 0), (12, 0)] (.conj [(1, 0), (2, 0), (13, 0), (14, 0), (15, 0)] .leaf (.conj [(13, 0), (14, 0), (15, 0)] (.conj [(1, 0), (2, 0)] .leaf (.cut 1 1 (.cut 2 1 .leaf .leaf) .leaf)) .leaf)) .leaf)
noncomputable def OH : Lf := (wM.lo 8 2)
def LW : Sp := (.cut 8 3 (.cut 9 0 .leaf (.cut 9 1 (.cut 10 0 .leaf (.cut 10 16 (.cut 12 3 (.conj [(1, 0), (2, 0), (13, 0), (14, 0), (15, 0)] .leaf (.conj [(13, 0), (14, 0), (15, 0)] (.conj [(1, 0), (2, 0)] .leaf (.cut 1 1 (.cut 2 1 .leaf .leaf) .leaf)) .leaf)) .leaf) .leaf)) .leaf)) (.cut 8 4 (.cut 9 0 .leaf (.cut 9 1 (.cut 10 0 .leaf (.cut 10 16 (.cut 12 3 (.conj [(1, 0), (2, 0), (13, 0), (14, 0), (15, 0)] .leaf (.conj [(13, 0), (14, 0), (15, 0)] (.conj [(1, 0), (2, 0)] .leaf (.cut 1 1 (.cut 2 1 .leaf .leaf) .leaf)) .leaf)) .leaf) .leaf)) .leaf)) .leaf))
def zJ : Sp := .cut 8 2 Na LW
def zL : Sp := .cut 8 1 Jl zJ
noncomputable def Q8 : Lf := { uP with cf := [(5, 0), (6, 0), (7, 0)] :: uP.cf }
def MG : Sp := .leaf
def zY : Sp := .conj [(5, 0), (6, 0), (7, 0)] zL MG
noncomputable def xJ : Lf := (xB.lo 3 2)
noncomputable def wo : Lf := (xJ.hi 3 (3 - 1))
noncomputable def QD : Lf := (wo.hi 4 (0 - 1))
def La : Sp := .leaf
noncomputable def vY : Lf := (wo.lo 4 0)
noncomputable def yx : Lf := (vY.hi 4 (1 - 1))
noncomputable def Qi : Lf := (yx.hi 5 (0 - 1))
def J9 : Sp := .leaf
noncomputable def yt : Lf := (yx.lo 5 0)
noncomputable def wP : Lf := (yt.hi 5 (16 - 1))
noncomputable def xU : Lf := (wP.hi 7 (3 - 1))
noncomputable def OG : Lf := (xU.hi 8 (1 - 1))
def Nc : Sp := .leaf
noncomputable def wB : Lf := (xU.lo 8 1)
noncomputable def QM : Lf := (wB.hi 8 (2 - 1))
def Jp : Sp := (.conj [(10, 0), (11, 0), (12, 0)] (.conj [(1, 0), (2, 0), (13, 0), (14, 0), (15, 0)] .leaf (.conj [(13, 0), (14, 0), (15, 0)] (.conj [(1, 0), (2, 0)] .leaf (.cut 1 1 (.cut 2 1 .leaf .leaf) .leaf)) .leaf)) .leaf)
noncomputable def QZ : Lf := (wB.lo 8 2)
def JQ : Sp := (.cut 8 3 (.cut 9 0 .leaf (.cut 9 1 (.cut 10 0 .leaf (.cut 10 16 (.cut 12 3 (.conj [(1, 0), (2, 0), (13, 0), (14, 0), (15, 0)] .leaf (.conj [(13, 0), (14, 0), (15, 0)] (.conj [(1, 0), (2, 0)] .leaf (.cut 1 1 (.cut 2 1 .leaf .leaf) .leaf)) .leaf)) .leaf) .leaf)) .leaf)) (.cut 8 4 (.cut 9 0 .leaf (.cut 9 1 (.cut 10 0 .leaf (.cut 10 16 (.cut 12 3 (.conj [(1, 0), (2, 0), (13, 0), (14, 0), (15, 0)] .leaf (.conj [(13, 0), (14, 0), (15, 0)] (.conj [(1, 0), (2, 0)] .leaf (.cut 1 1 (.cut 2 1 .leaf .leaf) .leaf)) .leaf)) .leaf) .leaf)) .leaf)) .leaf))
def Au : Sp := .cut 8 2 Jp JQ
def zH : Sp := .cut 8 1 Nc Au
noncomputable def Q5 : Lf := (wP.lo 7 3)
def N7 : Sp := .leaf
def zM : Sp := .cut 7 3 zH N7
noncomputable def OQ : Lf := (yt.lo 5 16)
def Jc : Sp := .leaf
def zn : Sp := .cut 5 16 zM Jc
def AQ : Sp := .cut 5 0 J9 zn
noncomputable def Qq : Lf := (vY.lo 4 1)
def NG : Sp := .leaf
def Ac : Sp := .cut 4 1 AQ NG
def AV : Sp := .cut 4 0 La Ac
noncomputable def wX : Lf := (xJ.lo 3 3)
noncomputable def wO : Lf := (wX.hi 3 (4 - 1))
noncomputable def QN : Lf := (wO.hi 4 (0 - 1))
def NH : Sp := .leaf
noncomputable def x9 : Lf := (wO.lo 4 0)
noncomputable def y5 : Lf := (x9.hi 4 (1 - 1))
noncomputable def Qn : Lf := (y5.hi 5 (0 - 1))
def KR : Sp := .leaf
noncomputable def vO : Lf := (y5.lo 5 0)
noncomputable def wW : Lf := (vO.hi 5 (16 - 1))
noncomputable def vT : Lf := (wW.hi 7 (3 - 1))
noncomputable def P7 : Lf := (vT.hi 8 (1 - 1))
def Jt : Sp := .leaf
noncomputable def vZ : Lf := (vT.lo 8 1)
noncomputable def Qj : Lf := (vZ.hi 8 (2 - 1))
def Kw : Sp := (.conj [(10, 0), (11, 0), (12, 0)] (.conj [(1, 0), (2, 0), (13, 0), (14, 0), (15, 0)] .leaf (.conj [(13, 0), (14, 0), (15, 0)] (.conj [(1, 0), (2, 0)] .leaf (.cut 1 1 (.cut 2 1 .leaf .leaf) .leaf)) .leaf)) .leaf)
noncomputable def PX : Lf := (vZ.lo 8 2)
def IJ : Sp := (.cut 8 3 (.cut 9 0 .leaf (.cut 9 1 (.cut 10 0 .leaf (.cut 10 16 (.cut 12 3 (.conj [(1, 0), (2, 0), (13, 0), (14, 0), (15, 0)] .leaf (.conj [(13, 0), (14, 0), (15, 0)] (.conj [(1, 0), (2, 0)] .leaf (.cut 1 1 (.cut 2 1 .leaf .leaf) .leaf)) .leaf)) .leaf) .leaf)) .leaf)) (.cut 8 4 (.cut 9 0 .leaf (.cut 9 1 (.cut 10 0 .leaf (.cut 10 16 (.cut 12 3 (.conj [(1, 0), (2, 0), (13, 0), (14, 0), (15, 0)] .leaf (.conj [(13, 0), (14, 0), (15, 0)] (.conj [(1, 0), (2, 0)] .leaf (.cut 1 1 (.cut 2 1 .leaf .leaf) .leaf)) .leaf)) .leaf) .leaf)) .leaf)) .leaf))
def zW : Sp := .cut 8 2 Kw IJ
def Aq : Sp := .cut 8 1 Jt zW
noncomputable def F8 : Lf := (wW.lo 7 3)
def Bz : Sp := .leaf
def zA : Sp := .cut 7 3 Aq Bz
noncomputable def F5 : Lf := (vO.lo 5 16)
def Ci : Sp := .leaf
def Ak : Sp := .cut 5 16 zA Ci
def zq : Sp := .cut 5 0 KR Ak
noncomputable def EU : Lf := (x9.lo 4 1)
def Bo : Sp := .leaf
def zU : Sp := .cut 4 1 zq Bo
def AO : Sp := .cut 4 0 NH zU
noncomputable def EY : Lf := (wX.lo 3 4)
def Cm : Sp := .leaf
def Aj : Sp := .cut 3 4 AO Cm
def zG : Sp := .cut 3 3 AV Aj
def zX : Sp := .cut 3 2 zY zG
def Aw : Sp := .cut 3 1 MB zX
noncomputable def qF : Lf := (wG.lo 0 4)
noncomputable def Fq : Lf := (qF.hi 0 (5 - 1))
def Bg : Sp := (.cut 13 0 (.conj [(3, 0), (4, 0), (5, 0), (6, 0), (7, 0)] (.conj [(8, 0), (9, 0), (10, 0), (11, 0), (12, 0)] .leaf .leaf) .leaf) (.cut 13 16 (.cut 15 3 (.cut 2 1 (.conj [(3, 0), (4, 0), (5, 0), (6, 0), (7, 0)] (.conj [(8, 0), (9, 0), (10, 0), (11, 0), (12, 0)] (.cut 1 1 .leaf .leaf) .leaf) .leaf) (.cut 2 4 (.conj [(1, 0), (3, 0), (4, 0), (5, 0), (6, 0), (7, 0), (8, 0), (9, 0), (10, 0), (11, 0), (12, 0)] .leaf (.conj [(3, 0), (4, 0), (5, 0), (6, 0), (7, 0)] (.conj [(1, 0), (8, 0), (9, 0), (10, 0), (11, 0), (12, 0)] .leaf (.conj [(8, 0), (9, 0), (10, 0), (11, 0), (12, 0)] (.cut 1 1 .leaf .leaf) .leaf)) .leaf)) (.conj [(3, 0), (4, 0), (5, 0), (6, 0), (7, 0)] (.conj [(8, 0), (9, 0), (10, 0), (11, 0), (12, 0)] (.cut 1 1 .leaf .leaf) .leaf) .leaf))) (.conj [(3, 0), (4, 0), (5, 0), (6, 0), (7, 0)] (.conj [(8, 0), (9, 0), (10, 0), (11, 0), (12, 0)] .leaf .leaf) .leaf)) (.conj [(3, 0), (4, 0), (5, 0), (6, 0), (7, 0)] (.conj [(8, 0), (9, 0), (10, 0), (11, 0), (12, 0)] .leaf .leaf) .leaf)))
noncomputable def EJ : Lf := (qF.lo 0 5)
def CG : Sp := (.cut 0 6 (.cut 13 0 (.conj [(3, 0), (4, 0), (5, 0), (6, 0), (7, 0)] (.conj [(8, 0), (9, 0), (10, 0), (11, 0), (12, 0)] .leaf .leaf) .leaf) (.cut 13 16 (.cut 15 3 (.conj [(1, 0), (2, 0), (3, 0), (4, 0), (5, 0), (6, 0), (7, 0), (8, 0), (9, 0), (10, 0), (11, 0), (12, 0)] .leaf (.conj [(3, 0), (4, 0), (5, 0), (6, 0), (7, 0)] (.conj [(1, 0), (2, 0), (8, 0), (9, 0), (10, 0), (11, 0), (12, 0)] .leaf (.conj [(8, 0), (9, 0), (10, 0), (11, 0), (12, 0)] (.conj [(1, 0), (2, 0)] .leaf (.cut 1 1 (.cut 2 1 .leaf .leaf) .leaf)) .leaf)) .leaf)) (.conj [(3, 0), (4, 0), (5, 0), (6, 0), (7, 0)] (.conj [(8, 0), (9, 0), (10, 0), (11, 0), (12, 0)] .leaf .leaf) .leaf)) (.conj [(3, 0), (4, 0), (5, 0), (6, 0), (7, 0)] (.conj [(8, 0), (9, 0), (10, 0), (11, 0), (12, 0)] .leaf .leaf) .leaf))) .leaf)
def qZ : Sp := .cut 0 5 Bg CG
def AX : Sp := .cut 0 4 Aw qZ
def zC : Sp := .cut 0 3 zy AX
def Og : Sp := .cut 0 2 O8 zC
def Tn : Sp := .cut 0 1 Z4 Og
noncomputable def ay (L : Lf) : Bool := nC (qB 0) m8 kRv L (@runs (L.know (eG 0 kRv)) (lM Tryz.prog) (lZ Tryz.prog) (low4 (L.know (eG 0 kRv))) 30 15 96 [.g ((bZ 0 kRv).map L.nS)] ⟨[], 0⟩ 0)
theorem ahL : (Z4.leaves a4j).all ay = true := by kernel_rfl
theorem ahk : (YZ.leaves a2A).all ay = true := by kernel_rfl
theorem ahe : (YU.leaves a1R).all ay = true := by kernel_rfl
theorem ahg : (Ye.leaves a5E).all ay = true := by kernel_rfl
theorem ah2 : (XJ.leaves a2F).all ay = true := by kernel_rfl
theorem aaR : (KY.leaves Qd).all ay = true := by kernel_rfl
theorem aaO : (NR.leaves Qu).all ay = true := by kernel_rfl
theorem acS : (LV.leaves P6).all ay = true := by kernel_rfl
theorem a6B : (NS.leaves Ph).all ay = true := by kernel_rfl
theorem a9G : (Nw.leaves Qa).all ay = true := by kernel_rfl
theorem a7J : (KD.leaves PZ).all ay = true := by kernel_rfl
theorem acT : (JD.leaves Pg).all ay = true := by kernel_rfl
theorem adH : (KE.leaves QG).all ay = true := by kernel_rfl
theorem a6x : (JJ.leaves Q7).all ay = true := by kernel_rfl
theorem acA : (IQ.leaves Oq).all ay = true := by kernel_rfl
theorem ab4 : (Jr.leaves QO).all ay = true := by kernel_rfl
theorem adD : (JM.leaves QJ).all ay = true := by kernel_rfl
theorem a9j : (MR.leaves OI).all ay = true := by kernel_rfl
theorem a8R : (JI.leaves QV).all ay = true := by kernel_rfl
theorem aax : (Ll.leaves Qz).all ay = true := by kernel_rfl
theorem afm : (JE.leaves QW).all ay = true := by kernel_rfl
theorem ab2 : (Nv.leaves QL).all ay = true := by kernel_rfl
theorem aaY : (MK.leaves OM).all ay = true := by kernel_rfl
theorem a9X : (MQ.leaves Om).all ay = true := by kernel_rfl
theorem abn : (Nj.leaves OO).all ay = true := by kernel_rfl
theorem aef : (JW.leaves OC).all ay = true := by kernel_rfl
theorem a6V : (JO.leaves Oy).all ay = true := by kernel_rfl
theorem acK : (JX.leaves P5).all ay = true := by kernel_rfl
theorem a9y : (KF.leaves Q9).all ay = true := by kernel_rfl
theorem ae9 : (Nb.leaves OZ).all ay = true := by kernel_rfl
theorem abr : (MB.leaves QB).all ay = true := by kernel_rfl
theorem a9R : (Jl.leaves Qp).all ay = true := by kernel_rfl
theorem a7z : (Na.leaves OX).all ay = true := by kernel_rfl
theorem abl : (LW.leaves OH).all ay = true := by kernel_rfl
theorem a7N : (MG.leaves Q8).all ay = true := by kernel_rfl
theorem aej : (La.leaves QD).all ay = true := by kernel_rfl
theorem ad4 : (J9.leaves Qi).all ay = true := by kernel_rfl
theorem a7f : (Nc.leaves OG).all ay = true := by kernel_rfl
theorem aci : (Jp.leaves QM).all ay = true := by kernel_rfl
theorem abf : (JQ.leaves QZ).all ay = true := by kernel_rfl
theorem a7Y : (N7.leaves Q5).all ay = true := by kernel_rfl
theorem ade : (Jc.leaves OQ).all ay = true := by kernel_rfl
theorem ae4 : (NG.leaves Qq).all ay = true := by kernel_rfl
theorem aat : (NH.leaves QN).all ay = true := by kernel_rfl
theorem a6z : (KR.leaves Qn).all ay = true := by kernel_rfl
theorem af4 : (Jt.leaves P7).all ay = true := by kernel_rfl
theorem adG : (Kw.leaves Qj).all ay = true := by kernel_rfl
theorem adN : (IJ.leaves PX).all ay = true := by kernel_rfl
theorem a5c : (Bz.leaves F8).all ay = true := by kernel_rfl
theorem a4W : (Ci.leaves F5).all ay = true := by kernel_rfl
theorem a6f : (Bo.leaves EU).all ay = true := by kernel_rfl
theorem a5U : (Cm.leaves EY).all ay = true := by kernel_rfl
theorem a3w : (Bg.leaves Fq).all ay = true := by kernel_rfl
theorem a2K : (CG.leaves EJ).all ay = true := by kernel_rfl
theorem afB : (O5.leaves Me).all ay = true := by
 have e : O5.leaves Me = Ye.leaves a5E ++ XJ.leaves a2F := rfl
 rw [e]
 simp only [List.all_append, ahg, ah2, Bool.and_self]
theorem ai1 : (O6.leaves J6).all ay = true := by
 have e : O6.leaves J6 = YU.leaves a1R ++ O5.leaves Me := rfl
 rw [e]
 simp only [List.all_append, ahe, afB, Bool.and_self]
theorem afP : (O8.leaves JV).all ay = true := by
 have e : O8.leaves JV = YZ.leaves a2A ++ O6.leaves J6 := rfl
 rw [e]
 simp only [List.all_append, ahk, ai1, Bool.and_self]
theorem a9v : (Ae.leaves wZ).all ay = true := by
 have e : Ae.leaves wZ = NS.leaves Ph ++ Nw.leaves Qa := rfl
 rw [e]
 simp only [List.all_append, a6B, a9G, Bool.and_self]
theorem a7A : (zQ.leaves vX).all ay = true := by
 have e : zQ.leaves vX = LV.leaves P6 ++ Ae.leaves wZ := rfl
 rw [e]
 simp only [List.all_append, acS, a9v, Bool.and_self]
theorem abA : (Ai.leaves yB).all ay = true := by
 have e : Ai.leaves yB = NR.leaves Qu ++ zQ.leaves vX := rfl
 rw [e]
 simp only [List.all_append, aaO, a7A, Bool.and_self]
theorem a98 : (zu.leaves uT).all ay = true := by
 have e : zu.leaves uT = Ai.leaves yB ++ KD.leaves PZ := rfl
 rw [e]
 simp only [List.all_append, abA, a7J, Bool.and_self]
theorem aeA : (Ah.leaves vI).all ay = true := by
 have e : Ah.leaves vI = Jr.leaves QO ++ JM.leaves QJ := rfl
 rw [e]
 simp only [List.all_append, ab4, adD, Bool.and_self]
theorem aeX : (Af.leaves xP).all ay = true := by
 have e : Af.leaves xP = IQ.leaves Oq ++ Ah.leaves vI := rfl
 rw [e]
 simp only [List.all_append, acA, aeA, Bool.and_self]
theorem adC : (zl.leaves yc).all ay = true := by
 have e : zl.leaves yc = JJ.leaves Q7 ++ Af.leaves xP := rfl
 rw [e]
 simp only [List.all_append, a6x, aeX, Bool.and_self]
theorem aak : (AP.leaves xY).all ay = true := by
 have e : AP.leaves xY = zl.leaves yc ++ MR.leaves OI := rfl
 rw [e]
 simp only [List.all_append, adC, a9j, Bool.and_self]
theorem a9W : (AA.leaves y9).all ay = true := by
 have e : AA.leaves y9 = AP.leaves xY ++ JI.leaves QV := rfl
 rw [e]
 simp only [List.all_append, aak, a8R, Bool.and_self]
theorem afg : (AY.leaves vU).all ay = true := by
 have e : AY.leaves vU = KE.leaves QG ++ AA.leaves y9 := rfl
 rw [e]
 simp only [List.all_append, adH, a9W, Bool.and_self]
theorem abE : (A8.leaves xC).all ay = true := by
 have e : A8.leaves xC = AY.leaves vU ++ Ll.leaves Qz := rfl
 rw [e]
 simp only [List.all_append, afg, aax, Bool.and_self]
theorem acI : (zN.leaves y8).all ay = true := by
 have e : zN.leaves y8 = JD.leaves Pg ++ A8.leaves xC := rfl
 rw [e]
 simp only [List.all_append, acT, abE, Bool.and_self]
theorem adA : (zD.leaves vV).all ay = true := by
 have e : zD.leaves vV = Nj.leaves OO ++ JW.leaves OC := rfl
 rw [e]
 simp only [List.all_append, abn, aef, Bool.and_self]
theorem aaJ : (zI.leaves xu).all ay = true := by
 have e : zI.leaves xu = MQ.leaves Om ++ zD.leaves vV := rfl
 rw [e]
 simp only [List.all_append, a9X, adA, Bool.and_self]
theorem a6F : (Ap.leaves wH).all ay = true := by
 have e : Ap.leaves wH = MK.leaves OM ++ zI.leaves xu := rfl
 rw [e]
 simp only [List.all_append, aaY, aaJ, Bool.and_self]
theorem aev : (zV.leaves yg).all ay = true := by
 have e : zV.leaves yg = Ap.leaves wH ++ JO.leaves Oy := rfl
 rw [e]
 simp only [List.all_append, a6F, a6V, Bool.and_self]
theorem aaZ : (Ad.leaves xH).all ay = true := by
 have e : Ad.leaves xH = zV.leaves yg ++ JX.leaves P5 := rfl
 rw [e]
 simp only [List.all_append, aev, acK, Bool.and_self]
theorem a8S : (AL.leaves xk).all ay = true := by
 have e : AL.leaves xk = Nv.leaves QL ++ Ad.leaves xH := rfl
 rw [e]
 simp only [List.all_append, ab2, aaZ, Bool.and_self]
theorem abM : (AB.leaves wI).all ay = true := by
 have e : AB.leaves wI = AL.leaves xk ++ KF.leaves Q9 := rfl
 rw [e]
 simp only [List.all_append, a8S, a9y, Bool.and_self]
theorem aaS : (zK.leaves yh).all ay = true := by
 have e : zK.leaves yh = JE.leaves QW ++ AB.leaves wI := rfl
 rw [e]
 simp only [List.all_append, afm, abM, Bool.and_self]
theorem a7Q : (zZ.leaves xq).all ay = true := by
 have e : zZ.leaves xq = zK.leaves yh ++ Nb.leaves OZ := rfl
 rw [e]
 simp only [List.all_append, aaS, ae9, Bool.and_self]
theorem a7a : (Ag.leaves xO).all ay = true := by
 have e : Ag.leaves xO = zN.leaves y8 ++ zZ.leaves xq := rfl
 rw [e]
 simp only [List.all_append, acI, a7Q, Bool.and_self]
theorem a7U : (zF.leaves vP).all ay = true := by
 have e : zF.leaves vP = zu.leaves uT ++ Ag.leaves xO := rfl
 rw [e]
 simp only [List.all_append, a98, a7a, Bool.and_self]
theorem afe : (zy.leaves wL).all ay = true := by
 have e : zy.leaves wL = KY.leaves Qd ++ zF.leaves vP := rfl
 rw [e]
 simp only [List.all_append, aaR, a7U, Bool.and_self]
theorem abJ : (zJ.leaves wM).all ay = true := by
 have e : zJ.leaves wM = Na.leaves OX ++ LW.leaves OH := rfl
 rw [e]
 simp only [List.all_append, a7z, abl, Bool.and_self]
theorem acw : (zL.leaves yu).all ay = true := by
 have e : zL.leaves yu = Jl.leaves Qp ++ zJ.leaves wM := rfl
 rw [e]
 simp only [List.all_append, a9R, abJ, Bool.and_self]
theorem aa5 : (zY.leaves uP).all ay = true := by
 have e : zY.leaves uP = zL.leaves yu ++ MG.leaves Q8 := rfl
 rw [e]
 simp only [List.all_append, acw, a7N, Bool.and_self]
theorem a8i : (Au.leaves wB).all ay = true := by
 have e : Au.leaves wB = Jp.leaves QM ++ JQ.leaves QZ := rfl
 rw [e]
 simp only [List.all_append, aci, abf, Bool.and_self]
theorem ac5 : (zH.leaves xU).all ay = true := by
 have e : zH.leaves xU = Nc.leaves OG ++ Au.leaves wB := rfl
 rw [e]
 simp only [List.all_append, a7f, a8i, Bool.and_self]
theorem a7j : (zM.leaves wP).all ay = true := by
 have e : zM.leaves wP = zH.leaves xU ++ N7.leaves Q5 := rfl
 rw [e]
 simp only [List.all_append, ac5, a7Y, Bool.and_self]
theorem afc : (zn.leaves yt).all ay = true := by
 have e : zn.leaves yt = zM.leaves wP ++ Jc.leaves OQ := rfl
 rw [e]
 simp only [List.all_append, a7j, ade, Bool.and_self]
theorem abg : (AQ.leaves yx).all ay = true := by
 have e : AQ.leaves yx = J9.leaves Qi ++ zn.leaves yt := rfl
 rw [e]
 simp only [List.all_append, ad4, afc, Bool.and_self]
theorem aeH : (Ac.leaves vY).all ay = true := by
 have e : Ac.leaves vY = AQ.leaves yx ++ NG.leaves Qq := rfl
 rw [e]
 simp only [List.all_append, abg, ae4, Bool.and_self]
theorem a8V : (AV.leaves wo).all ay = true := by
 have e : AV.leaves wo = La.leaves QD ++ Ac.leaves vY := rfl
 rw [e]
 simp only [List.all_append, aej, aeH, Bool.and_self]
theorem aeN : (zW.leaves vZ).all ay = true := by
 have e : zW.leaves vZ = Kw.leaves Qj ++ IJ.leaves PX := rfl
 rw [e]
 simp only [List.all_append, adG, adN, Bool.and_self]
theorem a7q : (Aq.leaves vT).all ay = true := by
 have e : Aq.leaves vT = Jt.leaves P7 ++ zW.leaves vZ := rfl
 rw [e]
 simp only [List.all_append, af4, aeN, Bool.and_self]
theorem abH : (zA.leaves wW).all ay = true := by
 have e : zA.leaves wW = Aq.leaves vT ++ Bz.leaves F8 := rfl
 rw [e]
 simp only [List.all_append, a7q, a5c, Bool.and_self]
theorem aaH : (Ak.leaves vO).all ay = true := by
 have e : Ak.leaves vO = zA.leaves wW ++ Ci.leaves F5 := rfl
 rw [e]
 simp only [List.all_append, abH, a4W, Bool.and_self]
theorem aaP : (zq.leaves y5).all ay = true := by
 have e : zq.leaves y5 = KR.leaves Qn ++ Ak.leaves vO := rfl
 rw [e]
 simp only [List.all_append, a6z, aaH, Bool.and_self]
theorem a7W : (zU.leaves x9).all ay = true := by
 have e : zU.leaves x9 = zq.leaves y5 ++ Bo.leaves EU := rfl
 rw [e]
 simp only [List.all_append, aaP, a6f, Bool.and_self]
theorem aaN : (AO.leaves wO).all ay = true := by
 have e : AO.leaves wO = NH.leaves QN ++ zU.leaves x9 := rfl
 rw [e]
 simp only [List.all_append, aat, a7W, Bool.and_self]
theorem a8h : (Aj.leaves wX).all ay = true := by
 have e : Aj.leaves wX = AO.leaves wO ++ Cm.leaves EY := rfl
 rw [e]
 simp only [List.all_append, aaN, a5U, Bool.and_self]
theorem adi : (zG.leaves xJ).all ay = true := by
 have e : zG.leaves xJ = AV.leaves wo ++ Aj.leaves wX := rfl
 rw [e]
 simp only [List.all_append, a8V, a8h, Bool.and_self]
theorem abW : (zX.leaves xB).all ay = true := by
 have e : zX.leaves xB = zY.leaves uP ++ zG.leaves xJ := rfl
 rw [e]
 simp only [List.all_append, aa5, adi, Bool.and_self]
theorem afb : (Aw.leaves xM).all ay = true := by
 have e : Aw.leaves xM = MB.leaves QB ++ zX.leaves xB := rfl
 rw [e]
 simp only [List.all_append, abr, abW, Bool.and_self]
theorem a4F : (qZ.leaves qF).all ay = true := by
 have e : qZ.leaves qF = Bg.leaves Fq ++ CG.leaves EJ := rfl
 rw [e]
 simp only [List.all_append, a3w, a2K, Bool.and_self]
theorem ae3 : (AX.leaves wG).all ay = true := by
 have e : AX.leaves wG = Aw.leaves xM ++ qZ.leaves qF := rfl
 rw [e]
 simp only [List.all_append, afb, a4F, Bool.and_self]
theorem adE : (zC.leaves xW).all ay = true := by
 have e : zC.leaves xW = zy.leaves wL ++ AX.leaves wG := rfl
 rw [e]
 simp only [List.all_append, afe, ae3, Bool.and_self]
theorem agU : (Og.leaves NP).all ay = true := by
 have e : Og.leaves NP = O8.leaves JV ++ zC.leaves xW := rfl
 rw [e]
 simp only [List.all_append, afP, adE, Bool.and_self]
theorem ag5 : (Tn.leaves VE).all ay = true := by
 have e : Tn.leaves VE = Z4.leaves a4j ++ Og.leaves NP := rfl
 rw [e]
 simp only [List.all_append, ahL, agU, Bool.and_self]
theorem Qy : Tests Tryz.prog zk 96 kRv (qB 0) v8 := mZ Gi (fun L => low4 (L.know (eG 0 kRv))) (fun _ {_ _} h k => BH (sZ default (Lf.ok h k))) (sp := Tn) ag5
noncomputable def au (L : Lf) : Bool := nC (qB 0) m8 kRv L (@runs (L.know (eG 0 kRv)) (lM Tryz.prog) (lZ Tryz.prog) (low4 (L.know (eG 0 kRv))) 30 15 128 [.g ((bZ 0 kRv).map L.nS)] ⟨[], 0⟩ 0)
theorem agm : (Z4.leaves a4j).all au = true := by kernel_rfl
theorem agq : (YZ.leaves a2A).all au = true := by kernel_rfl
theorem ahh : (YU.leaves a1R).all au = true := by kernel_rfl
theorem aib : (Ye.leaves a5E).all au = true := by kernel_rfl
theorem agM : (XJ.leaves a2F).all au = true := by kernel_rfl
theorem acE : (KY.leaves Qd).all au = true := by kernel_rfl
theorem a6H : (NR.leaves Qu).all au = true := by kernel_rfl
theorem a9Y : (LV.leaves P6).all au = true := by kernel_rfl
theorem a97 : (NS.leaves Ph).all au = true := by kernel_rfl
theorem aa4 : (Nw.leaves Qa).all au = true := by kernel_rfl
theorem a7M : (KD.leaves PZ).all au = true := by kernel_rfl
theorem aeV : (JD.leaves Pg).all au = true := by kernel_rfl
theorem a8y : (KE.leaves QG).all au = true := by kernel_rfl
theorem aeC : (JJ.leaves Q7).all au = true := by kernel_rfl
theorem adI : (IQ.leaves Oq).all au = true := by kernel_rfl
theorem a6M : (Jr.leaves QO).all au = true := by kernel_rfl
theorem aeK : (JM.leaves QJ).all au = true := by kernel_rfl
theorem a7n : (MR.leaves OI).all au = true := by kernel_rfl
theorem acX : (JI.leaves QV).all au = true := by kernel_rfl
theorem a8w : (Ll.leaves Qz).all au = true := by kernel_rfl
theorem a7d : (JE.leaves QW).all au = true := by kernel_rfl
theorem a7o : (Nv.leaves QL).all au = true := by kernel_rfl
theorem ab8 : (MK.leaves OM).all au = true := by kernel_rfl
theorem a8Y : (MQ.leaves Om).all au = true := by kernel_rfl
theorem aaT : (Nj.leaves OO).all au = true := by kernel_rfl
theorem a6v : (JW.leaves OC).all au = true := by kernel_rfl
theorem a8F : (JO.leaves Oy).all au = true := by kernel_rfl
theorem a6t : (JX.leaves P5).all au = true := by kernel_rfl
theorem abd : (KF.leaves Q9).all au = true := by kernel_rfl
theorem a9F : (Nb.leaves OZ).all au = true := by kernel_rfl
theorem a9z : (MB.leaves QB).all au = true := by kernel_rfl
theorem a6L : (Jl.leaves Qp).all au = true := by kernel_rfl
theorem aex : (Na.leaves OX).all au = true := by kernel_rfl
theorem a7B : (LW.leaves OH).all au = true := by kernel_rfl
theorem abL : (MG.leaves Q8).all au = true := by kernel_rfl
theorem a9T : (La.leaves QD).all au = true := by kernel_rfl
theorem a6s : (J9.leaves Qi).all au = true := by kernel_rfl
theorem adB : (Nc.leaves OG).all au = true := by kernel_rfl
theorem acV : (Jp.leaves QM).all au = true := by kernel_rfl
theorem ad6 : (JQ.leaves QZ).all au = true := by kernel_rfl
theorem a8J : (N7.leaves Q5).all au = true := by kernel_rfl
theorem acY : (Jc.leaves OQ).all au = true := by kernel_rfl
theorem ae6 : (NG.leaves Qq).all au = true := by kernel_rfl
theorem a8E : (NH.leaves QN).all au = true := by kernel_rfl
theorem adV : (KR.leaves Qn).all au = true := by kernel_rfl
theorem adX : (Jt.leaves P7).all au = true := by kernel_rfl
theorem abt : (Kw.leaves Qj).all au = true := by kernel_rfl
theorem acu : (IJ.leaves PX).all au = true := by kernel_rfl
theorem a2k : (Bz.leaves F8).all au = true := by kernel_rfl
theorem a4c : (Ci.leaves F5).all au = true := by kernel_rfl
theorem a5V : (Bo.leaves EU).all au = true := by kernel_rfl
theorem a2H : (Cm.leaves EY).all au = true := by kernel_rfl
theorem a2m : (Bg.leaves Fq).all au = true := by kernel_rfl
theorem a5t : (CG.leaves EJ).all au = true := by kernel_rfl
theorem ahN : (O5.leaves Me).all au = true := by
 have e : O5.leaves Me = Ye.leaves a5E ++ XJ.leaves a2F := rfl
 rw [e]
 simp only [List.all_append, aib, agM, Bool.and_self]
theorem aic : (O6.leaves J6).all au = true := by
 have e : O6.leaves J6 = YU.leaves a1R ++ O5.leaves Me := rfl
 rw [e]
 simp only [List.all_append, ahh, ahN, Bool.and_self]
theorem agv : (O8.leaves JV).all au = true := by
 have e : O8.leaves JV = YZ.leaves a2A ++ O6.leaves J6 := rfl
 rw [e]
 simp only [List.all_append, agq, aic, Bool.and_self]
theorem aaM : (Ae.leaves wZ).all au = true := by
 have e : Ae.leaves wZ = NS.leaves Ph ++ Nw.leaves Qa := rfl
 rw [e]
 simp only [List.all_append, a97, aa4, Bool.and_self]
theorem af9 : (zQ.leaves vX).all au = true := by
 have e : zQ.leaves vX = LV.leaves P6 ++ Ae.leaves wZ := rfl
 rw [e]
 simp only [List.all_append, a9Y, aaM, Bool.and_self]
theorem aay : (Ai.leaves yB).all au = true := by
 have e : Ai.leaves yB = NR.leaves Qu ++ zQ.leaves vX := rfl
 rw [e]
 simp only [List.all_append, a6H, af9, Bool.and_self]
theorem a6G : (zu.leaves uT).all au = true := by
 have e : zu.leaves uT = Ai.leaves yB ++ KD.leaves PZ := rfl
 rw [e]
 simp only [List.all_append, aay, a7M, Bool.and_self]
theorem acF : (Ah.leaves vI).all au = true := by
 have e : Ah.leaves vI = Jr.leaves QO ++ JM.leaves QJ := rfl
 rw [e]
 simp only [List.all_append, a6M, aeK, Bool.and_self]
theorem a9k : (Af.leaves xP).all au = true := by
 have e : Af.leaves xP = IQ.leaves Oq ++ Ah.leaves vI := rfl
 rw [e]
 simp only [List.all_append, adI, acF, Bool.and_self]
theorem adR : (zl.leaves yc).all au = true := by
 have e : zl.leaves yc = JJ.leaves Q7 ++ Af.leaves xP := rfl
 rw [e]
 simp only [List.all_append, aeC, a9k, Bool.and_self]
theorem acf : (AP.leaves xY).all au = true := by
 have e : AP.leaves xY = zl.leaves yc ++ MR.leaves OI := rfl
 rw [e]
 simp only [List.all_append, adR, a7n, Bool.and_self]
theorem a9e : (AA.leaves y9).all au = true := by
 have e : AA.leaves y9 = AP.leaves xY ++ JI.leaves QV := rfl
 rw [e]
 simp only [List.all_append, acf, acX, Bool.and_self]
theorem aeZ : (AY.leaves vU).all au = true := by
 have e : AY.leaves vU = KE.leaves QG ++ AA.leaves y9 := rfl
 rw [e]
 simp only [List.all_append, a8y, a9e, Bool.and_self]
theorem acP : (A8.leaves xC).all au = true := by
 have e : A8.leaves xC = AY.leaves vU ++ Ll.leaves Qz := rfl
 rw [e]
 simp only [List.all_append, aeZ, a8w, Bool.and_self]
theorem acD : (zN.leaves y8).all au = true := by
 have e : zN.leaves y8 = JD.leaves Pg ++ A8.leaves xC := rfl
 rw [e]
 simp only [List.all_append, aeV, acP, Bool.and_self]
theorem ac0 : (zD.leaves vV).all au = true := by
 have e : zD.leaves vV = Nj.leaves OO ++ JW.leaves OC := rfl
 rw [e]
 simp only [List.all_append, aaT, a6v, Bool.and_self]
theorem a7E : (zI.leaves xu).all au = true := by
 have e : zI.leaves xu = MQ.leaves Om ++ zD.leaves vV := rfl
 rw [e]
 simp only [List.all_append, a8Y, ac0, Bool.and_self]
theorem a9Q : (Ap.leaves wH).all au = true := by
 have e : Ap.leaves wH = MK.leaves OM ++ zI.leaves xu := rfl
 rw [e]
 simp only [List.all_append, ab8, a7E, Bool.and_self]
theorem a8j : (zV.leaves yg).all au = true := by
 have e : zV.leaves yg = Ap.leaves wH ++ JO.leaves Oy := rfl
 rw [e]
 simp only [List.all_append, a9Q, a8F, Bool.and_self]
theorem a9J : (Ad.leaves xH).all au = true := by
 have e : Ad.leaves xH = zV.leaves yg ++ JX.leaves P5 := rfl
 rw [e]
 simp only [List.all_append, a8j, a6t, Bool.and_self]
theorem a7I : (AL.leaves xk).all au = true := by
 have e : AL.leaves xk = Nv.leaves QL ++ Ad.leaves xH := rfl
 rw [e]
 simp only [List.all_append, a7o, a9J, Bool.and_self]
theorem a7R : (AB.leaves wI).all au = true := by
 have e : AB.leaves wI = AL.leaves xk ++ KF.leaves Q9 := rfl
 rw [e]
 simp only [List.all_append, a7I, abd, Bool.and_self]
theorem a8B : (zK.leaves yh).all au = true := by
 have e : zK.leaves yh = JE.leaves QW ++ AB.leaves wI := rfl
 rw [e]
 simp only [List.all_append, a7d, a7R, Bool.and_self]
theorem ae8 : (zZ.leaves xq).all au = true := by
 have e : zZ.leaves xq = zK.leaves yh ++ Nb.leaves OZ := rfl
 rw [e]
 simp only [List.all_append, a8B, a9F, Bool.and_self]
theorem aan : (Ag.leaves xO).all au = true := by
 have e : Ag.leaves xO = zN.leaves y8 ++ zZ.leaves xq := rfl
 rw [e]
 simp only [List.all_append, acD, ae8, Bool.and_self]
theorem afj : (zF.leaves vP).all au = true := by
 have e : zF.leaves vP = zu.leaves uT ++ Ag.leaves xO := rfl
 rw [e]
 simp only [List.all_append, a6G, aan, Bool.and_self]
theorem aa8 : (zy.leaves wL).all au = true := by
 have e : zy.leaves wL = KY.leaves Qd ++ zF.leaves vP := rfl
 rw [e]
 simp only [List.all_append, acE, afj, Bool.and_self]
theorem a8A : (zJ.leaves wM).all au = true := by
 have e : zJ.leaves wM = Na.leaves OX ++ LW.leaves OH := rfl
 rw [e]
 simp only [List.all_append, aex, a7B, Bool.and_self]
theorem af0 : (zL.leaves yu).all au = true := by
 have e : zL.leaves yu = Jl.leaves Qp ++ zJ.leaves wM := rfl
 rw [e]
 simp only [List.all_append, a6L, a8A, Bool.and_self]
theorem aa3 : (zY.leaves uP).all au = true := by
 have e : zY.leaves uP = zL.leaves yu ++ MG.leaves Q8 := rfl
 rw [e]
 simp only [List.all_append, af0, abL, Bool.and_self]
theorem ab6 : (Au.leaves wB).all au = true := by
 have e : Au.leaves wB = Jp.leaves QM ++ JQ.leaves QZ := rfl
 rw [e]
 simp only [List.all_append, acV, ad6, Bool.and_self]
theorem a8N : (zH.leaves xU).all au = true := by
 have e : zH.leaves xU = Nc.leaves OG ++ Au.leaves wB := rfl
 rw [e]
 simp only [List.all_append, adB, ab6, Bool.and_self]
theorem ac6 : (zM.leaves wP).all au = true := by
 have e : zM.leaves wP = zH.leaves xU ++ N7.leaves Q5 := rfl
 rw [e]
 simp only [List.all_append, a8N, a8J, Bool.and_self]
theorem a7S : (zn.leaves yt).all au = true := by
 have e : zn.leaves yt = zM.leaves wP ++ Jc.leaves OQ := rfl
 rw [e]
 simp only [List.all_append, ac6, acY, Bool.and_self]
theorem ab3 : (AQ.leaves yx).all au = true := by
 have e : AQ.leaves yx = J9.leaves Qi ++ zn.leaves yt := rfl
 rw [e]
 simp only [List.all_append, a6s, a7S, Bool.and_self]
theorem a8d : (Ac.leaves vY).all au = true := by
 have e : Ac.leaves vY = AQ.leaves yx ++ NG.leaves Qq := rfl
 rw [e]
 simp only [List.all_append, ab3, ae6, Bool.and_self]
theorem a9x : (AV.leaves wo).all au = true := by
 have e : AV.leaves wo = La.leaves QD ++ Ac.leaves vY := rfl
 rw [e]
 simp only [List.all_append, a9T, a8d, Bool.and_self]
theorem aeD : (zW.leaves vZ).all au = true := by
 have e : zW.leaves vZ = Kw.leaves Qj ++ IJ.leaves PX := rfl
 rw [e]
 simp only [List.all_append, abt, acu, Bool.and_self]
theorem ada : (Aq.leaves vT).all au = true := by
 have e : Aq.leaves vT = Jt.leaves P7 ++ zW.leaves vZ := rfl
 rw [e]
 simp only [List.all_append, adX, aeD, Bool.and_self]
theorem ace : (zA.leaves wW).all au = true := by
 have e : zA.leaves wW = Aq.leaves vT ++ Bz.leaves F8 := rfl
 rw [e]
 simp only [List.all_append, ada, a2k, Bool.and_self]
theorem ac7 : (Ak.leaves vO).all au = true := by
 have e : Ak.leaves vO = zA.leaves wW ++ Ci.leaves F5 := rfl
 rw [e]
 simp only [List.all_append, ace, a4c, Bool.and_self]
theorem abk : (zq.leaves y5).all au = true := by
 have e : zq.leaves y5 = KR.leaves Qn ++ Ak.leaves vO := rfl
 rw [e]
 simp only [List.all_append, adV, ac7, Bool.and_self]
theorem a9u : (zU.leaves x9).all au = true := by
 have e : zU.leaves x9 = zq.leaves y5 ++ Bo.leaves EU := rfl
 rw [e]
 simp only [List.all_append, abk, a5V, Bool.and_self]
theorem a7Z : (AO.leaves wO).all au = true := by
 have e : AO.leaves wO = NH.leaves QN ++ zU.leaves x9 := rfl
 rw [e]
 simp only [List.all_append, a8E, a9u, Bool.and_self]
theorem abI : (Aj.leaves wX).all au = true := by
 have e : Aj.leaves wX = AO.leaves wO ++ Cm.leaves EY := rfl
 rw [e]
 simp only [List.all_append, a7Z, a2H, Bool.and_self]
theorem a8m : (zG.leaves xJ).all au = true := by
 have e : zG.leaves xJ = AV.leaves wo ++ Aj.leaves wX := rfl
 rw [e]
 simp only [List.all_append, a9x, abI, Bool.and_self]
theorem ad7 : (zX.leaves xB).all au = true := by
 have e : zX.leaves xB = zY.leaves uP ++ zG.leaves xJ := rfl
 rw [e]
 simp only [List.all_append, aa3, a8m, Bool.and_self]
theorem a7b : (Aw.leaves xM).all au = true := by
 have e : Aw.leaves xM = MB.leaves QB ++ zX.leaves xB := rfl
 rw [e]
 simp only [List.all_append, a9z, ad7, Bool.and_self]
theorem a5G : (qZ.leaves qF).all au = true := by
 have e : qZ.leaves qF = Bg.leaves Fq ++ CG.leaves EJ := rfl
 rw [e]
 simp only [List.all_append, a2m, a5t, Bool.and_self]
theorem a7m : (AX.leaves wG).all au = true := by
 have e : AX.leaves wG = Aw.leaves xM ++ qZ.leaves qF := rfl
 rw [e]
 simp only [List.all_append, a7b, a5G, Bool.and_self]
theorem a6P : (zC.leaves xW).all au = true := by
 have e : zC.leaves xW = zy.leaves wL ++ AX.leaves wG := rfl
 rw [e]
 simp only [List.all_append, aa8, a7m, Bool.and_self]
theorem agn : (Og.leaves NP).all au = true := by
 have e : Og.leaves NP = O8.leaves JV ++ zC.leaves xW := rfl
 rw [e]
 simp only [List.all_append, agv, a6P, Bool.and_self]
theorem afs : (Tn.leaves VE).all au = true := by
 have e : Tn.leaves VE = Z4.leaves a4j ++ Og.leaves NP := rfl
 rw [e]
 simp only [List.all_append, agm, agn, Bool.and_self]
theorem Ql : Tests Tryz.prog zk 128 kRv (qB 0) v8 := mZ Gi (fun L => low4 (L.know (eG 0 kRv))) (fun _ {_ _} h k => BH (sZ default (Lf.ok h k))) (sp := Tn) afs
noncomputable def aA (L : Lf) : Bool := nC (qB 0) mB kRv L (@runs (L.know (eG 0 kRv)) (lM Tryz.prog) (lZ Tryz.prog) (low4 (L.know (eG 0 kRv))) 30 15 137 [.g ((bZ 0 kRv).map L.nS)] ⟨[], 0⟩ 0)
theorem agO : (Z4.leaves a4j).all aA = true := by kernel_rfl
theorem ah0 : (YZ.leaves a2A).all aA = true := by kernel_rfl
theorem afH : (YU.leaves a1R).all aA = true := by kernel_rfl
theorem ahO : (Ye.leaves a5E).all aA = true := by kernel_rfl
theorem afY : (XJ.leaves a2F).all aA = true := by kernel_rfl
theorem aaQ : (KY.leaves Qd).all aA = true := by kernel_rfl
theorem acd : (NR.leaves Qu).all aA = true := by kernel_rfl
theorem ado : (LV.leaves P6).all aA = true := by kernel_rfl
theorem a6Z : (NS.leaves Ph).all aA = true := by kernel_rfl
theorem a6T : (Nw.leaves Qa).all aA = true := by kernel_rfl
theorem a8c : (KD.leaves PZ).all aA = true := by kernel_rfl
theorem a6y : (JD.leaves Pg).all aA = true := by kernel_rfl
theorem aap : (KE.leaves QG).all aA = true := by kernel_rfl
theorem a6C : (JJ.leaves Q7).all aA = true := by kernel_rfl
theorem a7h : (IQ.leaves Oq).all aA = true := by kernel_rfl
theorem adO : (Jr.leaves QO).all aA = true := by kernel_rfl
theorem aek : (JM.leaves QJ).all aA = true := by kernel_rfl
theorem aa0 : (MR.leaves OI).all aA = true := by kernel_rfl
theorem a6Y : (JI.leaves QV).all aA = true := by kernel_rfl
theorem aco : (Ll.leaves Qz).all aA = true := by kernel_rfl
theorem aa1 : (JE.leaves QW).all aA = true := by kernel_rfl
theorem adx : (Nv.leaves QL).all aA = true := by kernel_rfl
theorem adl : (MK.leaves OM).all aA = true := by kernel_rfl
theorem aaz : (MQ.leaves Om).all aA = true := by kernel_rfl
theorem aas : (Nj.leaves OO).all aA = true := by kernel_rfl
theorem acZ : (JW.leaves OC).all aA = true := by kernel_rfl
theorem a7w : (JO.leaves Oy).all aA = true := by kernel_rfl
theorem acz : (JX.leaves P5).all aA = true := by kernel_rfl
theorem acQ : (KF.leaves Q9).all aA = true := by kernel_rfl
theorem acy : (Nb.leaves OZ).all aA = true := by kernel_rfl
theorem a7p : (MB.leaves QB).all aA = true := by kernel_rfl
theorem a6R : (Jl.leaves Qp).all aA = true := by kernel_rfl
theorem a8O : (Na.leaves OX).all aA = true := by kernel_rfl
theorem abX : (LW.leaves OH).all aA = true := by kernel_rfl
theorem acn : (MG.leaves Q8).all aA = true := by kernel_rfl
theorem ab7 : (La.leaves QD).all aA = true := by kernel_rfl
theorem abT : (J9.leaves Qi).all aA = true := by kernel_rfl
theorem aeJ : (Nc.leaves OG).all aA = true := by kernel_rfl
theorem a8M : (Jp.leaves QM).all aA = true := by kernel_rfl
theorem a7u : (JQ.leaves QZ).all aA = true := by kernel_rfl
theorem aaW : (N7.leaves Q5).all aA = true := by kernel_rfl
theorem adq : (Jc.leaves OQ).all aA = true := by kernel_rfl
theorem ab9 : (NG.leaves Qq).all aA = true := by kernel_rfl
theorem acN : (NH.leaves QN).all aA = true := by kernel_rfl
theorem a7c : (KR.leaves Qn).all aA = true := by kernel_rfl
theorem aaX : (Jt.leaves P7).all aA = true := by kernel_rfl
theorem a8n : (Kw.leaves Qj).all aA = true := by kernel_rfl
theorem abC : (IJ.leaves PX).all aA = true := by kernel_rfl
theorem a3K : (Bz.leaves F8).all aA = true := by kernel_rfl
theorem a2X : (Ci.leaves F5).all aA = true := by kernel_rfl
theorem a2h : (Bo.leaves EU).all aA = true := by kernel_rfl
theorem a3y : (Cm.leaves EY).all aA = true := by kernel_rfl
theorem a2I : (Bg.leaves Fq).all aA = true := by kernel_rfl
theorem a5J : (CG.leaves EJ).all aA = true := by kernel_rfl
theorem ahI : (O5.leaves Me).all aA = true := by
 have e : O5.leaves Me = Ye.leaves a5E ++ XJ.leaves a2F := rfl
 rw [e]
 simp only [List.all_append, ahO, afY, Bool.and_self]
theorem ahi : (O6.leaves J6).all aA = true := by
 have e : O6.leaves J6 = YU.leaves a1R ++ O5.leaves Me := rfl
 rw [e]
 simp only [List.all_append, afH, ahI, Bool.and_self]
theorem ahq : (O8.leaves JV).all aA = true := by
 have e : O8.leaves JV = YZ.leaves a2A ++ O6.leaves J6 := rfl
 rw [e]
 simp only [List.all_append, ah0, ahi, Bool.and_self]
theorem a9g : (Ae.leaves wZ).all aA = true := by
 have e : Ae.leaves wZ = NS.leaves Ph ++ Nw.leaves Qa := rfl
 rw [e]
 simp only [List.all_append, a6Z, a6T, Bool.and_self]
theorem aer : (zQ.leaves vX).all aA = true := by
 have e : zQ.leaves vX = LV.leaves P6 ++ Ae.leaves wZ := rfl
 rw [e]
 simp only [List.all_append, ado, a9g, Bool.and_self]
theorem aec : (Ai.leaves yB).all aA = true := by
 have e : Ai.leaves yB = NR.leaves Qu ++ zQ.leaves vX := rfl
 rw [e]
 simp only [List.all_append, acd, aer, Bool.and_self]
theorem adF : (zu.leaves uT).all aA = true := by
 have e : zu.leaves uT = Ai.leaves yB ++ KD.leaves PZ := rfl
 rw [e]
 simp only [List.all_append, aec, a8c, Bool.and_self]
theorem a9i : (Ah.leaves vI).all aA = true := by
 have e : Ah.leaves vI = Jr.leaves QO ++ JM.leaves QJ := rfl
 rw [e]
 simp only [List.all_append, adO, aek, Bool.and_self]
theorem acB : (Af.leaves xP).all aA = true := by
 have e : Af.leaves xP = IQ.leaves Oq ++ Ah.leaves vI := rfl
 rw [e]
 simp only [List.all_append, a7h, a9i, Bool.and_self]
theorem a8k : (zl.leaves yc).all aA = true := by
 have e : zl.leaves yc = JJ.leaves Q7 ++ Af.leaves xP := rfl
 rw [e]
 simp only [List.all_append, a6C, acB, Bool.and_self]
theorem aaB : (AP.leaves xY).all aA = true := by
 have e : AP.leaves xY = zl.leaves yc ++ MR.leaves OI := rfl
 rw [e]
 simp only [List.all_append, a8k, aa0, Bool.and_self]
theorem aaj : (AA.leaves y9).all aA = true := by
 have e : AA.leaves y9 = AP.leaves xY ++ JI.leaves QV := rfl
 rw [e]
 simp only [List.all_append, aaB, a6Y, Bool.and_self]
theorem abG : (AY.leaves vU).all aA = true := by
 have e : AY.leaves vU = KE.leaves QG ++ AA.leaves y9 := rfl
 rw [e]
 simp only [List.all_append, aap, aaj, Bool.and_self]
theorem aae : (A8.leaves xC).all aA = true := by
 have e : A8.leaves xC = AY.leaves vU ++ Ll.leaves Qz := rfl
 rw [e]
 simp only [List.all_append, abG, aco, Bool.and_self]
theorem abB : (zN.leaves y8).all aA = true := by
 have e : zN.leaves y8 = JD.leaves Pg ++ A8.leaves xC := rfl
 rw [e]
 simp only [List.all_append, a6y, aae, Bool.and_self]
theorem abx : (zD.leaves vV).all aA = true := by
 have e : zD.leaves vV = Nj.leaves OO ++ JW.leaves OC := rfl
 rw [e]
 simp only [List.all_append, aas, acZ, Bool.and_self]
theorem aeL : (zI.leaves xu).all aA = true := by
 have e : zI.leaves xu = MQ.leaves Om ++ zD.leaves vV := rfl
 rw [e]
 simp only [List.all_append, aaz, abx, Bool.and_self]
theorem acU : (Ap.leaves wH).all aA = true := by
 have e : Ap.leaves wH = MK.leaves OM ++ zI.leaves xu := rfl
 rw [e]
 simp only [List.all_append, adl, aeL, Bool.and_self]
theorem aeQ : (zV.leaves yg).all aA = true := by
 have e : zV.leaves yg = Ap.leaves wH ++ JO.leaves Oy := rfl
 rw [e]
 simp only [List.all_append, acU, a7w, Bool.and_self]
theorem aeP : (Ad.leaves xH).all aA = true := by
 have e : Ad.leaves xH = zV.leaves yg ++ JX.leaves P5 := rfl
 rw [e]
 simp only [List.all_append, aeQ, acz, Bool.and_self]
theorem a8I : (AL.leaves xk).all aA = true := by
 have e : AL.leaves xk = Nv.leaves QL ++ Ad.leaves xH := rfl
 rw [e]
 simp only [List.all_append, adx, aeP, Bool.and_self]
theorem adr : (AB.leaves wI).all aA = true := by
 have e : AB.leaves wI = AL.leaves xk ++ KF.leaves Q9 := rfl
 rw [e]
 simp only [List.all_append, a8I, acQ, Bool.and_self]
theorem a9w : (zK.leaves yh).all aA = true := by
 have e : zK.leaves yh = JE.leaves QW ++ AB.leaves wI := rfl
 rw [e]
 simp only [List.all_append, aa1, adr, Bool.and_self]
theorem abN : (zZ.leaves xq).all aA = true := by
 have e : zZ.leaves xq = zK.leaves yh ++ Nb.leaves OZ := rfl
 rw [e]
 simp only [List.all_append, a9w, acy, Bool.and_self]
theorem abo : (Ag.leaves xO).all aA = true := by
 have e : Ag.leaves xO = zN.leaves y8 ++ zZ.leaves xq := rfl
 rw [e]
 simp only [List.all_append, abB, abN, Bool.and_self]
theorem adZ : (zF.leaves vP).all aA = true := by
 have e : zF.leaves vP = zu.leaves uT ++ Ag.leaves xO := rfl
 rw [e]
 simp only [List.all_append, adF, abo, Bool.and_self]
theorem a9B : (zy.leaves wL).all aA = true := by
 have e : zy.leaves wL = KY.leaves Qd ++ zF.leaves vP := rfl
 rw [e]
 simp only [List.all_append, aaQ, adZ, Bool.and_self]
theorem adQ : (zJ.leaves wM).all aA = true := by
 have e : zJ.leaves wM = Na.leaves OX ++ LW.leaves OH := rfl
 rw [e]
 simp only [List.all_append, a8O, abX, Bool.and_self]
theorem ad3 : (zL.leaves yu).all aA = true := by
 have e : zL.leaves yu = Jl.leaves Qp ++ zJ.leaves wM := rfl
 rw [e]
 simp only [List.all_append, a6R, adQ, Bool.and_self]
theorem a6D : (zY.leaves uP).all aA = true := by
 have e : zY.leaves uP = zL.leaves yu ++ MG.leaves Q8 := rfl
 rw [e]
 simp only [List.all_append, ad3, acn, Bool.and_self]
theorem ad1 : (Au.leaves wB).all aA = true := by
 have e : Au.leaves wB = Jp.leaves QM ++ JQ.leaves QZ := rfl
 rw [e]
 simp only [List.all_append, a8M, a7u, Bool.and_self]
theorem a9O : (zH.leaves xU).all aA = true := by
 have e : zH.leaves xU = Nc.leaves OG ++ Au.leaves wB := rfl
 rw [e]
 simp only [List.all_append, aeJ, ad1, Bool.and_self]
theorem abV : (zM.leaves wP).all aA = true := by
 have e : zM.leaves wP = zH.leaves xU ++ N7.leaves Q5 := rfl
 rw [e]
 simp only [List.all_append, a9O, aaW, Bool.and_self]
theorem a8g : (zn.leaves yt).all aA = true := by
 have e : zn.leaves yt = zM.leaves wP ++ Jc.leaves OQ := rfl
 rw [e]
 simp only [List.all_append, abV, adq, Bool.and_self]
theorem ae1 : (AQ.leaves yx).all aA = true := by
 have e : AQ.leaves yx = J9.leaves Qi ++ zn.leaves yt := rfl
 rw [e]
 simp only [List.all_append, abT, a8g, Bool.and_self]
theorem aal : (Ac.leaves vY).all aA = true := by
 have e : Ac.leaves vY = AQ.leaves yx ++ NG.leaves Qq := rfl
 rw [e]
 simp only [List.all_append, ae1, ab9, Bool.and_self]
theorem adk : (AV.leaves wo).all aA = true := by
 have e : AV.leaves wo = La.leaves QD ++ Ac.leaves vY := rfl
 rw [e]
 simp only [List.all_append, ab7, aal, Bool.and_self]
theorem a9q : (zW.leaves vZ).all aA = true := by
 have e : zW.leaves vZ = Kw.leaves Qj ++ IJ.leaves PX := rfl
 rw [e]
 simp only [List.all_append, a8n, abC, Bool.and_self]
theorem af2 : (Aq.leaves vT).all aA = true := by
 have e : Aq.leaves vT = Jt.leaves P7 ++ zW.leaves vZ := rfl
 rw [e]
 simp only [List.all_append, aaX, a9q, Bool.and_self]
theorem a8l : (zA.leaves wW).all aA = true := by
 have e : zA.leaves wW = Aq.leaves vT ++ Bz.leaves F8 := rfl
 rw [e]
 simp only [List.all_append, af2, a3K, Bool.and_self]
theorem acH : (Ak.leaves vO).all aA = true := by
 have e : Ak.leaves vO = zA.leaves wW ++ Ci.leaves F5 := rfl
 rw [e]
 simp only [List.all_append, a8l, a2X, Bool.and_self]
theorem a9p : (zq.leaves y5).all aA = true := by
 have e : zq.leaves y5 = KR.leaves Qn ++ Ak.leaves vO := rfl
 rw [e]
 simp only [List.all_append, a7c, acH, Bool.and_self]
theorem aaD : (zU.leaves x9).all aA = true := by
 have e : zU.leaves x9 = zq.leaves y5 ++ Bo.leaves EU := rfl
 rw [e]
 simp only [List.all_append, a9p, a2h, Bool.and_self]
theorem aaK : (AO.leaves wO).all aA = true := by
 have e : AO.leaves wO = NH.leaves QN ++ zU.leaves x9 := rfl
 rw [e]
 simp only [List.all_append, acN, aaD, Bool.and_self]
theorem a7v : (Aj.leaves wX).all aA = true := by
 have e : Aj.leaves wX = AO.leaves wO ++ Cm.leaves EY := rfl
 rw [e]
 simp only [List.all_append, aaK, a3y, Bool.and_self]
theorem ad5 : (zG.leaves xJ).all aA = true := by
 have e : zG.leaves xJ = AV.leaves wo ++ Aj.leaves wX := rfl
 rw [e]
 simp only [List.all_append, adk, a7v, Bool.and_self]
theorem acC : (zX.leaves xB).all aA = true := by
 have e : zX.leaves xB = zY.leaves uP ++ zG.leaves xJ := rfl
 rw [e]
 simp only [List.all_append, a6D, ad5, Bool.and_self]
theorem afi : (Aw.leaves xM).all aA = true := by
 have e : Aw.leaves xM = MB.leaves QB ++ zX.leaves xB := rfl
 rw [e]
 simp only [List.all_append, a7p, acC, Bool.and_self]
theorem a5r : (qZ.leaves qF).all aA = true := by
 have e : qZ.leaves qF = Bg.leaves Fq ++ CG.leaves EJ := rfl
 rw [e]
 simp only [List.all_append, a2I, a5J, Bool.and_self]
theorem aeh : (AX.leaves wG).all aA = true := by
 have e : AX.leaves wG = Aw.leaves xM ++ qZ.leaves qF := rfl
 rw [e]
 simp only [List.all_append, afi, a5r, Bool.and_self]
theorem a9N : (zC.leaves xW).all aA = true := by
 have e : zC.leaves xW = zy.leaves wL ++ AX.leaves wG := rfl
 rw [e]
 simp only [List.all_append, a9B, aeh, Bool.and_self]
theorem ah7 : (Og.leaves NP).all aA = true := by
 have e : Og.leaves NP = O8.leaves JV ++ zC.leaves xW := rfl
 rw [e]
 simp only [List.all_append, ahq, a9N, Bool.and_self]
theorem ahr : (Tn.leaves VE).all aA = true := by
 have e : Tn.leaves VE = Z4.leaves a4j ++ Og.leaves NP := rfl
 rw [e]
 simp only [List.all_append, agO, ah7, Bool.and_self]
theorem a2r : Tests Tryz.prog zk 137 kRv (qB 0) .bool := mZ a6E (fun L => low4 (L.know (eG 0 kRv))) (fun _ {_ _} h k => BH (sZ default (Lf.ok h k))) (sp := Tn) ahr
noncomputable def Y2 (K : Know) : aS := fun f a h fl => orR (tO 95 kPl (fU 0) m8 K f a h fl) ( orR (tO 127 kPl (fU 0) m8 K f a h fl) ( orR (tO 97 kOp (bn 0) m8 K f a h fl) ( orR (tO 129 kOp (bn 0) m8 K f a h fl) ( orR (tO 96 kRv (qB 0) m8 K f a h fl) ( orR (tO 128 kRv (qB 0) m8 K f a h fl) (tO 137 kRv (qB 0) mB K f a h fl))))))
theorem CV (b : Base) : @Sound b Tryz.prog (Y2 b.toKnow) := @dU b _ _ _ (jE b ⟨_, Tryz.func95, by kernel_rfl, by kernel_rfl⟩ rW) ( @dU b _ _ _ (jE b ⟨_, Tryz.func127, by kernel_rfl, by kernel_rfl⟩ yH) ( @dU b _ _ _ (jE b ⟨_, Tryz.func97, by kernel_rfl, by kernel_rfl⟩ sO) ( @dU b _ _ _ (jE b ⟨_, Tryz.func129, by kernel_rfl, by kernel_rfl⟩ tu) ( @dU b _ _ _ (jE b ⟨_, Tryz.func96, by kernel_rfl, by kernel_rfl⟩ Qy) ( @dU b _ _ _ (jE b ⟨_, Tryz.func128, by kernel_rfl, by kernel_rfl⟩ Ql) (Vt b ⟨_, Tryz.func137, by kernel_rfl, by kernel_rfl⟩ a2r))))))
end Go.Proofs.YtglmonlofejcgaaGreatDoor.Am
