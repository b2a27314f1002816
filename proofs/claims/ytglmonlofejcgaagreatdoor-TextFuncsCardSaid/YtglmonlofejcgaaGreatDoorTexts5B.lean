/- Texts of statements: the cases. pawnshopref05.Written: the texts of statements. -/
import Derived.Test.YtglmonlofejcgaaGreatDoorUses45
set_option maxRecDepth 100000
namespace Go.Proofs.YtglmonlofejcgaaGreatDoor.Am
open Go.RowKit
def tsP : List Pl := [(1, (2, 3)), (9, (10, 11)), (14, (15, 16)), (17, (18, 19)), (22, (23, 24))]
noncomputable def a6b : Lf := Lf.JG [(true, kSt)] tsP.length
noncomputable def ahM : Lf := (a6b.hi 0 (1 - 1))
def abv : Sp := .leaf
noncomputable def WY : Lf := (a6b.lo 0 1)
noncomputable def WO : Lf := (WY.hi 0 (2 - 1))
noncomputable def ahs : Lf := (WO.hi 1 (0 - 1))
def a9f : Sp := .leaf
noncomputable def WA : Lf := (WO.lo 1 0)
noncomputable def U4 : Lf := (WA.hi 1 (16 - 1))
noncomputable def UN : Lf := (U4.hi 3 (3 - 1))
noncomputable def ai5 : Lf := (UN.hi 4 (1 - 1))
def a6S : Sp := .leaf
noncomputable def WE : Lf := (UN.lo 4 1)
noncomputable def a1l : Lf := (WE.hi 4 (2 - 1))
def UZ : Sp := (.cut 7 1 .leaf (.cut 7 2 (.conj [(9, 0), (10, 0), (11, 0)] (.conj [(12, 0), (13, 0), (14, 0), (15, 0), (16, 0)] (.conj [(17, 0), (18, 0), (19, 0)] (.cut 5 1 (.cut 6 1 (.conj [(20, 0), (21, 0), (22, 0), (23, 0), (24, 0)] (.cut 25 0 .leaf (.cut 25 1 .leaf .leaf)) .leaf) .leaf) .leaf) .leaf) .leaf) .leaf) (.cut 7 3 (.cut 8 0 .leaf (.cut 8 1 (.cut 9 0 .leaf (.cut 9 16 (.cut 11 3 (.conj [(12, 0), (13, 0), (14, 0), (15, 0), (16, 0)] (.conj [(17, 0), (18, 0), (19, 0)] (.cut 5 1 (.cut 6 1 (.conj [(20, 0), (21, 0), (22, 0), (23, 0), (24, 0)] (.cut 25 0 .leaf (.cut 25 1 .leaf .leaf)) .leaf) .leaf) .leaf) .leaf) .leaf) .leaf) .leaf)) .leaf)) (.cut 7 4 (.cut 8 0 .leaf (.cut 8 1 (.cut 9 0 .leaf (.cut 9 16 (.cut 11 3 (.conj [(12, 0), (13, 0), (14, 0), (15, 0), (16, 0)] (.conj [(17, 0), (18, 0), (19, 0)] (.cut 5 1 (.cut 6 1 (.conj [(20, 0), (21, 0), (22, 0), (23, 0), (24, 0)] (.cut 25 0 .leaf (.cut 25 1 .leaf .leaf)) .leaf) .leaf) .leaf) .leaf) .leaf) .leaf) .leaf)) .leaf)) .leaf))))
noncomputable def Gt : Lf := (WE.lo 4 2)
noncomputable def GI : Lf := (Gt.hi 4 (3 - 1))
noncomputable def a1a : Lf := (GI.hi 7 (1 - 1))
def Ur : Sp := .leaf
noncomputable def G7 : Lf := (GI.lo 7 1)
noncomputable def Es : Lf := (G7.hi 7 (2 - 1))
noncomputable def GX : Lf := (Es.all [(9, 0), (10, 0), (11, 0)])
noncomputable def a0t : Lf := (GX.hi 12 (1 - 1))
def UA : Sp := .leaf
noncomputable def G8 : Lf := (GX.lo 12 1)
noncomputable def a0x : Lf := (G8.hi 12 (2 - 1))
def U5 : Sp := (.conj [(14, 0), (15, 0), (16, 0)] (.conj [(17, 0), (18, 0), (19, 0)] (.cut 5 1 .leaf (.cut 5 7 (.cut 6 1 (.conj [(20, 0), (21, 0), (22, 0), (23, 0), (24, 0)] (.cut 25 0 .leaf (.cut 25 1 (.cut 5 4 (.cut 5 2 .leaf (.cut 5 3 .leaf .leaf)) (.cut 5 5 .leaf (.cut 5 6 .leaf .leaf))) .leaf)) .leaf) .leaf) .leaf)) .leaf) .leaf)
noncomputable def a0a : Lf := (G8.lo 12 2)
def Vh : Sp := (.cut 12 3 (.cut 13 0 .leaf (.cut 13 1 (.cut 14 0 .leaf (.cut 14 16 (.cut 16 3 (.conj [(17, 0), (18, 0), (19, 0)] (.cut 5 1 .leaf (.cut 5 7 (.cut 6 1 (.conj [(20, 0), (21, 0), (22, 0), (23, 0), (24, 0)] (.cut 25 0 .leaf (.cut 25 1 (.cut 5 4 (.cut 5 2 .leaf (.cut 5 3 .leaf .leaf)) (.cut 5 5 .leaf (.cut 5 6 .leaf .leaf))) .leaf)) .leaf) .leaf) .leaf)) .leaf) .leaf) .leaf)) .leaf)) (.cut 12 4 (.cut 13 0 .leaf (.cut 13 1 (.cut 14 0 .leaf (.cut 14 16 (.cut 16 3 (.conj [(17, 0), (18, 0), (19, 0)] (.cut 5 1 .leaf (.cut 5 7 (.cut 6 1 (.conj [(20, 0), (21, 0), (22, 0), (23, 0), (24, 0)] (.cut 25 0 .leaf (.cut 25 1 (.cut 5 4 (.cut 5 2 .leaf (.cut 5 3 .leaf .leaf)) (.cut 5 5 .leaf (.cut 5 6 .leaf .leaf))) .leaf)) .leaf) .leaf) .leaf)) .leaf) .leaf) .leaf)) .leaf)) .leaf))
def KG : Sp := .cut 12 2 U5 Vh
def Ny : Sp := .cut 12 1 UA KG
noncomputable def a1M : Lf := { Es with cf := [(9, 0), (10, 0), (11, 0)] :: Es.cf }
def Vz : Sp := .leaf
def KN : Sp := .conj [(9, 0), (10, 0), (11, 0)] Ny Vz
noncomputable def FX : Lf := (G7.lo 7 2)
noncomputable def Gg : Lf := (FX.hi 7 (3 - 1))
noncomputable def ZG : Lf := (Gg.hi 8 (0 - 1))
def UM : Sp := .leaf
noncomputable def H8 : Lf := (Gg.lo 8 0)
noncomputable def G9 : Lf := (H8.hi 8 (1 - 1))
noncomputable def ZE : Lf := (G9.hi 9 (0 - 1))
def VH : Sp := .leaf
noncomputable def Hf : Lf := (G9.lo 9 0)
noncomputable def GL : Lf := (Hf.hi 9 (16 - 1))
noncomputable def G6 : Lf := (GL.hi 11 (3 - 1))
noncomputable def a1g : Lf := (G6.hi 12 (1 - 1))
def Ud : Sp := .leaf
noncomputable def GZ : Lf := (G6.lo 12 1)
noncomputable def ZV : Lf := (GZ.hi 12 (2 - 1))
def Uo : Sp := (.conj [(14, 0), (15, 0), (16, 0)] (.conj [(17, 0), (18, 0), (19, 0)] (.cut 5 1 .leaf (.cut 5 7 (.cut 6 1 (.conj [(20, 0), (21, 0), (22, 0), (23, 0), (24, 0)] (.cut 25 0 .leaf (.cut 25 1 (.cut 5 4 (.cut 5 2 .leaf (.cut 5 3 .leaf .leaf)) (.cut 5 5 .leaf (.cut 5 6 .leaf .leaf))) .leaf)) .leaf) .leaf) .leaf)) .leaf) .leaf)
noncomputable def a0l : Lf := (GZ.lo 12 2)
def V5 : Sp := (.cut 12 3 (.cut 13 0 .leaf (.cut 13 1 (.cut 14 0 .leaf (.cut 14 16 (.cut 16 3 (.conj [(17, 0), (18, 0), (19, 0)] (.cut 5 1 .leaf (.cut 5 7 (.cut 6 1 (.conj [(20, 0), (21, 0), (22, 0), (23, 0), (24, 0)] (.cut 25 0 .leaf (.cut 25 1 (.cut 5 4 (.cut 5 2 .leaf (.cut 5 3 .leaf .leaf)) (.cut 5 5 .leaf (.cut 5 6 .leaf .leaf))) .leaf)) .leaf) .leaf) .leaf)) .leaf) .leaf) .leaf)) .leaf)) (.cut 12 4 (.cut 13 0 .leaf (.cut 13 1 (.cut 14 0 .leaf (.cut 14 16 (.cut 16 3 (.conj [(17, 0), (18, 0), (19, 0)] (.cut 5 1 .leaf (.cut 5 7 (.cut 6 1 (.conj [(20, 0), (21, 0), (22, 0), (23, 0), (24, 0)] (.cut 25 0 .leaf (.cut 25 1 (.cut 5 4 (.cut 5 2 .leaf (.cut 5 3 .leaf .leaf)) (.cut 5 5 .leaf (.cut 5 6 .leaf .leaf))) .leaf)) .leaf) .leaf) .leaf)) .leaf) .leaf) .leaf)) .leaf)) .leaf))
def Jh : Sp := .cut 12 2 Uo V5
def Ld : Sp := .cut 12 1 Ud Jh
noncomputable def a1m : Lf := (GL.lo 11 3)
def Vd : Sp := .leaf
def LX : Sp := .cut 11 3 Ld Vd
noncomputable def a0G : Lf := (Hf.lo 9 16)
def Uw : Sp := .leaf
def Ji : Sp := .cut 9 16 LX Uw
def Jf : Sp := .cut 9 0 VH Ji
noncomputable def a0B : Lf := (H8.lo 8 1)
def UK : Sp := .leaf
def LH : Sp := .cut 8 1 Jf UK
def LQ : Sp := .cut 8 0 UM LH
noncomputable def GU : Lf := (FX.lo 7 3)
noncomputable def GY : Lf := (GU.hi 7 (4 - 1))
noncomputable def Zm : Lf := (GY.hi 8 (0 - 1))
def Vr : Sp := .leaf
noncomputable def Gz : Lf := (GY.lo 8 0)
noncomputable def Gy : Lf := (Gz.hi 8 (1 - 1))
noncomputable def Zl : Lf := (Gy.hi 9 (0 - 1))
def WZ : Sp := .leaf
noncomputable def Gx : Lf := (Gy.lo 9 0)
noncomputable def H7 : Lf := (Gx.hi 9 (16 - 1))
noncomputable def Hr : Lf := (H7.hi 11 (3 - 1))
noncomputable def ZF : Lf := (Hr.hi 12 (1 - 1))
def UL : Sp := .leaf
noncomputable def He : Lf := (Hr.lo 12 1)
noncomputable def a0p : Lf := (He.hi 12 (2 - 1))
def Vl : Sp := (.conj [(14, 0), (15, 0), (16, 0)] (.conj [(17, 0), (18, 0), (19, 0)] (.cut 5 1 .leaf (.cut 5 7 (.cut 6 1 (.conj [(20, 0), (21, 0), (22, 0), (23, 0), (24, 0)] (.cut 25 0 .leaf (.cut 25 1 (.cut 5 4 (.cut 5 2 .leaf (.cut 5 3 .leaf .leaf)) (.cut 5 5 .leaf (.cut 5 6 .leaf .leaf))) .leaf)) .leaf) .leaf) .leaf)) .leaf) .leaf)
noncomputable def a1s : Lf := (He.lo 12 2)
def UF : Sp := (.cut 12 3 (.cut 13 0 .leaf (.cut 13 1 (.cut 14 0 .leaf (.cut 14 16 (.cut 16 3 (.conj [(17, 0), (18, 0), (19, 0)] (.cut 5 1 .leaf (.cut 5 7 (.cut 6 1 (.conj [(20, 0), (21, 0), (22, 0), (23, 0), (24, 0)] (.cut 25 0 .leaf (.cut 25 1 (.cut 5 4 (.cut 5 2 .leaf (.cut 5 3 .leaf .leaf)) (.cut 5 5 .leaf (.cut 5 6 .leaf .leaf))) .leaf)) .leaf) .leaf) .leaf)) .leaf) .leaf) .leaf)) .leaf)) (.cut 12 4 (.cut 13 0 .leaf (.cut 13 1 (.cut 14 0 .leaf (.cut 14 16 (.cut 16 3 (.conj [(17, 0), (18, 0), (19, 0)] (.cut 5 1 .leaf (.cut 5 7 (.cut 6 1 (.conj [(20, 0), (21, 0), (22, 0), (23, 0), (24, 0)] (.cut 25 0 .leaf (.cut 25 1 (.cut 5 4 (.cut 5 2 .leaf (.cut 5 3 .leaf .leaf)) (.cut 5 5 .leaf (.cut 5 6 .leaf .leaf))) .leaf)) .leaf) .leaf) .leaf)) .leaf) .leaf) .leaf)) .leaf)) .leaf))
def LP : Sp := .cut 12 2 Vl UF
def Je : Sp := .cut 12 1 UL LP
noncomputable def a1p : Lf := (H7.lo 11 3)
def X7 : Sp := .leaf
def Kz : Sp := .cut 11 3 Je X7
noncomputable def a0c : Lf := (Gx.lo 9 16)
def Xh : Sp := .leaf
def Nz : Sp := .cut 9 16 Kz Xh
def NY : Sp := .cut 9 0 WZ Nz
noncomputable def a1A : Lf := (Gz.lo 8 1)
def VX : Sp := .leaf
def LC : Sp := .cut 8 1 NY VX
def Jk : Sp := .cut 8 0 Vr LC
noncomputable def ZO : Lf := (GU.lo 7 4)
def Uh : Sp := .leaf
def MX : Sp := .cut 7 4 Jk Uh
def NU : Sp := .cut 7 3 LQ MX
def Md : Sp := .cut 7 2 KN NU
def JA : Sp := .cut 7 1 Ur Md
noncomputable def G5 : Lf := (Gt.lo 4 3)
noncomputable def Gu : Lf := (G5.hi 4 (4 - 1))
noncomputable def a1E : Lf := (Gu.hi 7 (1 - 1))
def Vj : Sp := .leaf
noncomputable def Hg : Lf := (Gu.lo 7 1)
noncomputable def a0N : Lf := (Hg.hi 7 (2 - 1))
def WL : Sp := (.conj [(9, 0), (10, 0), (11, 0)] (.cut 12 1 .leaf (.cut 12 2 (.conj [(14, 0), (15, 0), (16, 0)] (.conj [(17, 0), (18, 0), (19, 0)] (.cut 5 1 (.cut 6 1 (.conj [(20, 0), (21, 0), (22, 0), (23, 0), (24, 0)] (.cut 25 0 .leaf (.cut 25 1 .leaf .leaf)) .leaf) .leaf) .leaf) .leaf) .leaf) (.cut 12 3 (.cut 13 0 .leaf (.cut 13 1 (.cut 14 0 .leaf (.cut 14 16 (.cut 16 3 (.conj [(17, 0), (18, 0), (19, 0)] (.cut 5 1 (.cut 6 1 (.conj [(20, 0), (21, 0), (22, 0), (23, 0), (24, 0)] (.cut 25 0 .leaf (.cut 25 1 .leaf .leaf)) .leaf) .leaf) .leaf) .leaf) .leaf) .leaf)) .leaf)) (.cut 12 4 (.cut 13 0 .leaf (.cut 13 1 (.cut 14 0 .leaf (.cut 14 16 (.cut 16 3 (.conj [(17, 0), (18, 0), (19, 0)] (.cut 5 1 (.cut 6 1 (.conj [(20, 0), (21, 0), (22, 0), (23, 0), (24, 0)] (.cut 25 0 .leaf (.cut 25 1 .leaf .leaf)) .leaf) .leaf) .leaf) .leaf) .leaf) .leaf)) .leaf)) .leaf)))) .leaf)
noncomputable def Gq : Lf := (Hg.lo 7 2)
noncomputable def ZN : Lf := (Gq.hi 7 (3 - 1))
def Xd : Sp := (.cut 8 0 .leaf (.cut 8 1 (.cut 9 0 .leaf (.cut 9 16 (.cut 11 3 (.cut 12 1 .leaf (.cut 12 2 (.conj [(14, 0), (15, 0), (16, 0)] (.conj [(17, 0), (18, 0), (19, 0)] (.cut 5 1 (.cut 6 1 (.conj [(20, 0), (21, 0), (22, 0), (23, 0), (24, 0)] (.cut 25 0 .leaf (.cut 25 1 .leaf .leaf)) .leaf) .leaf) .leaf) .leaf) .leaf) (.cut 12 3 (.cut 13 0 .leaf (.cut 13 1 (.cut 14 0 .leaf (.cut 14 16 (.cut 16 3 (.conj [(17, 0), (18, 0), (19, 0)] (.cut 5 1 (.cut 6 1 (.conj [(20, 0), (21, 0), (22, 0), (23, 0), (24, 0)] (.cut 25 0 .leaf (.cut 25 1 .leaf .leaf)) .leaf) .leaf) .leaf) .leaf) .leaf) .leaf)) .leaf)) (.cut 12 4 (.cut 13 0 .leaf (.cut 13 1 (.cut 14 0 .leaf (.cut 14 16 (.cut 16 3 (.conj [(17, 0), (18, 0), (19, 0)] (.cut 5 1 (.cut 6 1 (.conj [(20, 0), (21, 0), (22, 0), (23, 0), (24, 0)] (.cut 25 0 .leaf (.cut 25 1 .leaf .leaf)) .leaf) .leaf) .leaf) .leaf) .leaf) .leaf)) .leaf)) .leaf)))) .leaf) .leaf)) .leaf))
noncomputable def a1b : Lf := (Gq.lo 7 3)
def VR : Sp := (.cut 7 4 (.cut 8 0 .leaf (.cut 8 1 (.cut 9 0 .leaf (.cut 9 16 (.cut 11 3 (.cut 12 1 .leaf (.cut 12 2 (.conj [(14, 0), (15, 0), (16, 0)] (.conj [(17, 0), (18, 0), (19, 0)] (.cut 5 1 (.cut 6 1 (.conj [(20, 0), (21, 0), (22, 0), (23, 0), (24, 0)] (.cut 25 0 .leaf (.cut 25 1 .leaf .leaf)) .leaf) .leaf) .leaf) .leaf) .leaf) (.cut 12 3 (.cut 13 0 .leaf (.cut 13 1 (.cut 14 0 .leaf (.cut 14 16 (.cut 16 3 (.conj [(17, 0), (18, 0), (19, 0)] (.cut 5 1 (.cut 6 1 (.conj [(20, 0), (21, 0), (22, 0), (23, 0), (24, 0)] (.cut 25 0 .leaf (.cut 25 1 .leaf .leaf)) .leaf) .leaf) .leaf) .leaf) .leaf) .leaf)) .leaf)) (.cut 12 4 (.cut 13 0 .leaf (.cut 13 1 (.cut 14 0 .leaf (.cut 14 16 (.cut 16 3 (.conj [(17, 0), (18, 0), (19, 0)] (.cut 5 1 (.cut 6 1 (.conj [(20, 0), (21, 0), (22, 0), (23, 0), (24, 0)] (.cut 25 0 .leaf (.cut 25 1 .leaf .leaf)) .leaf) .leaf) .leaf) .leaf) .leaf) .leaf)) .leaf)) .leaf)))) .leaf) .leaf)) .leaf)) .leaf)
def NC : Sp := .cut 7 3 Xd VR
def MV : Sp := .cut 7 2 WL NC
def Ju : Sp := .cut 7 1 Vj MV
noncomputable def a02 : Lf := (G5.lo 4 4)
def Xa : Sp := (.cut 4 5 (.conj [(7, 0), (8, 0), (9, 0), (10, 0), (11, 0)] (.conj [(12, 0), (13, 0), (14, 0), (15, 0), (16, 0)] (.cut 17 0 .leaf (.cut 17 16 (.cut 19 3 (.cut 5 1 (.cut 6 1 .leaf (.cut 6 4 (.conj [(20, 0), (21, 0), (22, 0), (23, 0), (24, 0)] (.cut 25 0 .leaf (.cut 25 1 (.cut 6 2 .leaf (.cut 6 3 .leaf .leaf)) .leaf)) .leaf) .leaf)) .leaf) .leaf) .leaf)) .leaf) .leaf) (.cut 4 6 (.conj [(7, 0), (8, 0), (9, 0), (10, 0), (11, 0)] (.conj [(12, 0), (13, 0), (14, 0), (15, 0), (16, 0)] (.cut 17 0 .leaf (.cut 17 16 (.cut 19 3 (.cut 5 1 (.cut 6 1 (.conj [(20, 0), (21, 0), (22, 0), (23, 0), (24, 0)] (.cut 25 0 .leaf (.cut 25 1 .leaf .leaf)) .leaf) .leaf) .leaf) .leaf) .leaf)) .leaf) .leaf) .leaf))
def NM : Sp := .cut 4 4 Ju Xa
def Jw : Sp := .cut 4 3 JA NM
def Y6 : Sp := .cut 4 2 UZ Jw
def YH : Sp := .cut 4 1 a6S Y6
noncomputable def ZU : Lf := (U4.lo 3 3)
def Vs : Sp := .leaf
def Y0 : Sp := .cut 3 3 YH Vs
noncomputable def a1O : Lf := (WA.lo 1 16)
def Uu : Sp := .leaf
def XB : Sp := .cut 1 16 Y0 Uu
def Yc : Sp := .cut 1 0 a9f XB
noncomputable def GR : Lf := (WY.lo 0 2)
noncomputable def Zh : Lf := (GR.hi 0 (3 - 1))
def Vo : Sp := (.conj [(1, 0), (2, 0), (3, 0)] (.conj [(4, 0), (5, 0), (6, 0), (7, 0), (8, 0), (9, 0), (10, 0), (11, 0), (12, 0), (13, 0), (14, 0), (15, 0), (16, 0), (17, 0), (18, 0), (19, 0)] (.cut 20 1 .leaf (.cut 20 2 (.conj [(22, 0), (23, 0), (24, 0)] (.cut 25 0 .leaf (.cut 25 1 .leaf .leaf)) .leaf) (.cut 20 3 (.cut 21 0 .leaf (.cut 21 1 (.cut 22 0 .leaf (.cut 22 16 (.cut 24 3 (.cut 25 0 .leaf (.cut 25 1 .leaf .leaf)) .leaf) .leaf)) .leaf)) (.cut 20 4 (.cut 21 0 .leaf (.cut 21 1 (.cut 22 0 .leaf (.cut 22 16 (.cut 24 3 (.cut 25 0 .leaf (.cut 25 1 .leaf .leaf)) .leaf) .leaf)) .leaf)) .leaf)))) .leaf) .leaf)
noncomputable def Gf : Lf := (GR.lo 0 3)
noncomputable def ZI : Lf := (Gf.hi 0 (4 - 1))
def WJ : Sp := (.conj [(1, 0), (2, 0), (3, 0)] (.conj [(4, 0), (5, 0), (6, 0), (7, 0), (8, 0), (9, 0), (10, 0), (11, 0), (12, 0), (13, 0), (14, 0), (15, 0), (16, 0), (17, 0), (18, 0), (19, 0)] (.conj [(20, 0), (21, 0), (22, 0), (23, 0), (24, 0)] (.cut 25 0 .leaf (.cut 25 16 (.cut 25 10 (.cut 25 5 (.cut 25 2 (.cut 25 1 .leaf .leaf) (.cut 25 3 .leaf (.cut 25 4 .leaf .leaf))) (.cut 25 7 (.cut 25 6 .leaf .leaf) (.cut 25 8 .leaf (.cut 25 9 .leaf .leaf)))) (.cut 25 13 (.cut 25 11 .leaf (.cut 25 12 .leaf .leaf)) (.cut 25 14 .leaf (.cut 25 15 .leaf .leaf)))) .leaf)) .leaf) .leaf) .leaf)
noncomputable def a1B : Lf := (Gf.lo 0 4)
def WS : Sp := (.cut 0 5 (.conj [(1, 0), (2, 0), (3, 0)] (.conj [(4, 0), (5, 0), (6, 0), (7, 0), (8, 0), (9, 0), (10, 0), (11, 0), (12, 0), (13, 0), (14, 0), (15, 0), (16, 0), (17, 0), (18, 0), (19, 0)] (.cut 20 1 .leaf (.cut 20 2 (.conj [(22, 0), (23, 0), (24, 0)] (.cut 25 0 .leaf (.cut 25 1 .leaf .leaf)) .leaf) (.cut 20 3 (.cut 21 0 .leaf (.cut 21 1 (.cut 22 0 .leaf (.cut 22 16 (.cut 24 3 (.cut 25 0 .leaf (.cut 25 1 .leaf .leaf)) .leaf) .leaf)) .leaf)) (.cut 20 4 (.cut 21 0 .leaf (.cut 21 1 (.cut 22 0 .leaf (.cut 22 16 (.cut 24 3 (.cut 25 0 .leaf (.cut 25 1 .leaf .leaf)) .leaf) .leaf)) .leaf)) .leaf)))) .leaf) .leaf) .leaf)
def Nl : Sp := .cut 0 4 WJ WS
def Le : Sp := .cut 0 3 Vo Nl
def Xv : Sp := .cut 0 2 Yc Le
def a3Y : Sp := .cut 0 1 abv Xv
noncomputable def aB (L : Lf) : Bool := wF dJ kSt mS2 (stX true kSt tsP L (nU kSt L)) L (ahK 39 kSt tsP L)
noncomputable def aC (L : Lf) : Bool := wF dJ kSt mS1 (stX false kSt tsP L (nU kSt L)) L (ahK 86 kSt tsP L)
open Go.RowKit
theorem adM : (abv.leaves ahM).all aC = true := by kernel_rfl
theorem a6N : (a9f.leaves ahs).all aC = true := by kernel_rfl
theorem aa9 : (a6S.leaves ai5).all aC = true := by kernel_rfl
theorem a2C : (UZ.leaves a1l).all aC = true := by kernel_rfl
theorem a3k : (Ur.leaves a1a).all aC = true := by kernel_rfl
theorem a4i : (UA.leaves a0t).all aC = true := by kernel_rfl
theorem a5O : (U5.leaves a0x).all aC = true := by kernel_rfl
theorem a3z : (Vh.leaves a0a).all aC = true := by kernel_rfl
theorem a5H : (Vz.leaves a1M).all aC = true := by kernel_rfl
theorem a2D : (UM.leaves ZG).all aC = true := by kernel_rfl
theorem a2V : (VH.leaves ZE).all aC = true := by kernel_rfl
theorem a3u : (Ud.leaves a1g).all aC = true := by kernel_rfl
theorem a3o : (Uo.leaves ZV).all aC = true := by kernel_rfl
theorem a3C : (V5.leaves a0l).all aC = true := by kernel_rfl
theorem a5w : (Vd.leaves a1m).all aC = true := by kernel_rfl
theorem a2w : (Uw.leaves a0G).all aC = true := by kernel_rfl
theorem a5f : (UK.leaves a0B).all aC = true := by kernel_rfl
theorem a2y : (Vr.leaves Zm).all aC = true := by kernel_rfl
theorem a4H : (WZ.leaves Zl).all aC = true := by kernel_rfl
theorem a2x : (UL.leaves ZF).all aC = true := by kernel_rfl
theorem a1V : (Vl.leaves a0p).all aC = true := by kernel_rfl
theorem a6l : (UF.leaves a1s).all aC = true := by kernel_rfl
theorem a3n : (X7.leaves a1p).all aC = true := by kernel_rfl
theorem a4b : (Xh.leaves a0c).all aC = true := by kernel_rfl
theorem a3R : (VX.leaves a1A).all aC = true := by kernel_rfl
theorem a4R : (Uh.leaves ZO).all aC = true := by kernel_rfl
theorem a2e : (Vj.leaves a1E).all aC = true := by kernel_rfl
theorem a3h : (WL.leaves a0N).all aC = true := by kernel_rfl
theorem a6n : (Xd.leaves ZN).all aC = true := by kernel_rfl
theorem a3e : (VR.leaves a1b).all aC = true := by kernel_rfl
theorem a3s : (Xa.leaves a02).all aC = true := by kernel_rfl
theorem a5P : (Vs.leaves ZU).all aC = true := by kernel_rfl
theorem a3r : (Uu.leaves a1O).all aC = true := by kernel_rfl
theorem a2W : (Vo.leaves Zh).all aC = true := by kernel_rfl
theorem a3m : (WJ.leaves ZI).all aC = true := by kernel_rfl
theorem a3L : (WS.leaves a1B).all aC = true := by kernel_rfl
theorem a2u : (KG.leaves G8).all aC = true := by
 have e : KG.leaves G8 = U5.leaves a0x ++ Vh.leaves a0a := rfl
 rw [e]
 simp only [List.all_append, a5O, a3z, Bool.and_self]
theorem a2t : (Ny.leaves GX).all aC = true := by
 have e : Ny.leaves GX = UA.leaves a0t ++ KG.leaves G8 := rfl
 rw [e]
 simp only [List.all_append, a4i, a2u, Bool.and_self]
theorem a2B : (KN.leaves Es).all aC = true := by
 have e : KN.leaves Es = Ny.leaves GX ++ Vz.leaves a1M := rfl
 rw [e]
 simp only [List.all_append, a2t, a5H, Bool.and_self]
theorem a2z : (Jh.leaves GZ).all aC = true := by
 have e : Jh.leaves GZ = Uo.leaves ZV ++ V5.leaves a0l := rfl
 rw [e]
 simp only [List.all_append, a3o, a3C, Bool.and_self]
theorem a2S : (Ld.leaves G6).all aC = true := by
 have e : Ld.leaves G6 = Ud.leaves a1g ++ Jh.leaves GZ := rfl
 rw [e]
 simp only [List.all_append, a3u, a2z, Bool.and_self]
theorem a2O : (LX.leaves GL).all aC = true := by
 have e : LX.leaves GL = Ld.leaves G6 ++ Vd.leaves a1m := rfl
 rw [e]
 simp only [List.all_append, a2S, a5w, Bool.and_self]
theorem a3A : (Ji.leaves Hf).all aC = true := by
 have e : Ji.leaves Hf = LX.leaves GL ++ Uw.leaves a0G := rfl
 rw [e]
 simp only [List.all_append, a2O, a2w, Bool.and_self]
theorem a4G : (Jf.leaves G9).all aC = true := by
 have e : Jf.leaves G9 = VH.leaves ZE ++ Ji.leaves Hf := rfl
 rw [e]
 simp only [List.all_append, a2V, a3A, Bool.and_self]
theorem a5B : (LH.leaves H8).all aC = true := by
 have e : LH.leaves H8 = Jf.leaves G9 ++ UK.leaves a0B := rfl
 rw [e]
 simp only [List.all_append, a4G, a5f, Bool.and_self]
theorem a4k : (LQ.leaves Gg).all aC = true := by
 have e : LQ.leaves Gg = UM.leaves ZG ++ LH.leaves H8 := rfl
 rw [e]
 simp only [List.all_append, a2D, a5B, Bool.and_self]
theorem a3J : (LP.leaves He).all aC = true := by
 have e : LP.leaves He = Vl.leaves a0p ++ UF.leaves a1s := rfl
 rw [e]
 simp only [List.all_append, a1V, a6l, Bool.and_self]
theorem a5a : (Je.leaves Hr).all aC = true := by
 have e : Je.leaves Hr = UL.leaves ZF ++ LP.leaves He := rfl
 rw [e]
 simp only [List.all_append, a2x, a3J, Bool.and_self]
theorem a1W : (Kz.leaves H7).all aC = true := by
 have e : Kz.leaves H7 = Je.leaves Hr ++ X7.leaves a1p := rfl
 rw [e]
 simp only [List.all_append, a5a, a3n, Bool.and_self]
theorem a4s : (Nz.leaves Gx).all aC = true := by
 have e : Nz.leaves Gx = Kz.leaves H7 ++ Xh.leaves a0c := rfl
 rw [e]
 simp only [List.all_append, a1W, a4b, Bool.and_self]
theorem a2J : (NY.leaves Gy).all aC = true := by
 have e : NY.leaves Gy = WZ.leaves Zl ++ Nz.leaves Gx := rfl
 rw [e]
 simp only [List.all_append, a4H, a4s, Bool.and_self]
theorem a4N : (LC.leaves Gz).all aC = true := by
 have e : LC.leaves Gz = NY.leaves Gy ++ VX.leaves a1A := rfl
 rw [e]
 simp only [List.all_append, a2J, a3R, Bool.and_self]
theorem a4I : (Jk.leaves GY).all aC = true := by
 have e : Jk.leaves GY = Vr.leaves Zm ++ LC.leaves Gz := rfl
 rw [e]
 simp only [List.all_append, a2y, a4N, Bool.and_self]
theorem a3X : (MX.leaves GU).all aC = true := by
 have e : MX.leaves GU = Jk.leaves GY ++ Uh.leaves ZO := rfl
 rw [e]
 simp only [List.all_append, a4I, a4R, Bool.and_self]
theorem a5o : (NU.leaves FX).all aC = true := by
 have e : NU.leaves FX = LQ.leaves Gg ++ MX.leaves GU := rfl
 rw [e]
 simp only [List.all_append, a4k, a3X, Bool.and_self]
theorem a6m : (Md.leaves G7).all aC = true := by
 have e : Md.leaves G7 = KN.leaves Es ++ NU.leaves FX := rfl
 rw [e]
 simp only [List.all_append, a2B, a5o, Bool.and_self]
theorem a2i : (JA.leaves GI).all aC = true := by
 have e : JA.leaves GI = Ur.leaves a1a ++ Md.leaves G7 := rfl
 rw [e]
 simp only [List.all_append, a3k, a6m, Bool.and_self]
theorem a5N : (NC.leaves Gq).all aC = true := by
 have e : NC.leaves Gq = Xd.leaves ZN ++ VR.leaves a1b := rfl
 rw [e]
 simp only [List.all_append, a6n, a3e, Bool.and_self]
theorem a3T : (MV.leaves Hg).all aC = true := by
 have e : MV.leaves Hg = WL.leaves a0N ++ NC.leaves Gq := rfl
 rw [e]
 simp only [List.all_append, a3h, a5N, Bool.and_self]
theorem a4B : (Ju.leaves Gu).all aC = true := by
 have e : Ju.leaves Gu = Vj.leaves a1E ++ MV.leaves Hg := rfl
 rw [e]
 simp only [List.all_append, a2e, a3T, Bool.and_self]
theorem a4q : (NM.leaves G5).all aC = true := by
 have e : NM.leaves G5 = Ju.leaves Gu ++ Xa.leaves a02 := rfl
 rw [e]
 simp only [List.all_append, a4B, a3s, Bool.and_self]
theorem a2Y : (Jw.leaves Gt).all aC = true := by
 have e : Jw.leaves Gt = JA.leaves GI ++ NM.leaves G5 := rfl
 rw [e]
 simp only [List.all_append, a2i, a4q, Bool.and_self]
theorem a7t : (Y6.leaves WE).all aC = true := by
 have e : Y6.leaves WE = UZ.leaves a1l ++ Jw.leaves Gt := rfl
 rw [e]
 simp only [List.all_append, a2C, a2Y, Bool.and_self]
theorem a7y : (YH.leaves UN).all aC = true := by
 have e : YH.leaves UN = a6S.leaves ai5 ++ Y6.leaves WE := rfl
 rw [e]
 simp only [List.all_append, aa9, a7t, Bool.and_self]
theorem ac4 : (Y0.leaves U4).all aC = true := by
 have e : Y0.leaves U4 = YH.leaves UN ++ Vs.leaves ZU := rfl
 rw [e]
 simp only [List.all_append, a7y, a5P, Bool.and_self]
theorem a6J : (XB.leaves WA).all aC = true := by
 have e : XB.leaves WA = Y0.leaves U4 ++ Uu.leaves a1O := rfl
 rw [e]
 simp only [List.all_append, ac4, a3r, Bool.and_self]
theorem acL : (Yc.leaves WO).all aC = true := by
 have e : Yc.leaves WO = a9f.leaves ahs ++ XB.leaves WA := rfl
 rw [e]
 simp only [List.all_append, a6N, a6J, Bool.and_self]
theorem a5y : (Nl.leaves Gf).all aC = true := by
 have e : Nl.leaves Gf = WJ.leaves ZI ++ WS.leaves a1B := rfl
 rw [e]
 simp only [List.all_append, a3m, a3L, Bool.and_self]
theorem a4C : (Le.leaves GR).all aC = true := by
 have e : Le.leaves GR = Vo.leaves Zh ++ Nl.leaves Gf := rfl
 rw [e]
 simp only [List.all_append, a2W, a5y, Bool.and_self]
theorem adg : (Xv.leaves WY).all aC = true := by
 have e : Xv.leaves WY = Yc.leaves WO ++ Le.leaves GR := rfl
 rw [e]
 simp only [List.all_append, acL, a4C, Bool.and_self]
theorem a9r : (a3Y.leaves a6b).all aC = true := by
 have e : a3Y.leaves a6b = abv.leaves ahM ++ Xv.leaves WY := rfl
 rw [e]
 simp only [List.all_append, adM, adg, Bool.and_self]
theorem Xn : Texts Tryz.prog gq 86 kSt dJ (fun us => stT (MI us)) vS1 := PN SS (pls := tsP) (fun L xs => stX false kSt tsP L xs) (fun b0 L r xs us l hL d e ha h => @a8D b0 r L kSt tsP xs us hL d e ha _ l h) (by kernel_rfl) (sp := a3Y) a9r
end Go.Proofs.YtglmonlofejcgaaGreatDoor.Am
