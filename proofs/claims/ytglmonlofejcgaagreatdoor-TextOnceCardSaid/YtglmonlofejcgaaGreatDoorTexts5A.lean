/- Texts of statements: the cases. stmt.Text: the texts of statements. -/
import Derived.Test.YtglmonlofejcgaaGreatDoorUses45
set_option maxRecDepth 100000
noncomputable section
open List renaming all_append → apu
open Bool renaming and_self → apv
namespace Go.Proofs.YtglmonlofejcgaaGreatDoor
namespace Am
open Go.RowKit
def tsP : List Pl := [(1, (2, 3)), (9, (10, 11)), (14, (15, 16)), (17, (18, 19)), (22, (23, 24))]
def a5r : Lf := Lf.KI [(true, kSt)] tsP.length
def aiA : Lf := (a5r.hi 0 (1 - 1))
def a9v : Sp := .leaf
def Wp : Lf := (a5r.lo 0 1)
def WE : Lf := (Wp.hi 0 (2 - 1))
def ahG : Lf := (WE.hi 1 (0 - 1))
def aaU : Sp := .leaf
def YO : Lf := (WE.lo 1 0)
def Yv : Lf := (YO.hi 1 (16 - 1))
def Y0 : Lf := (Yv.hi 3 (3 - 1))
def akg : Lf := (Y0.hi 4 (1 - 1))
def ah7 : Sp := .leaf
def WQ : Lf := (Y0.lo 4 1)
def a2m : Lf := (WQ.hi 4 (2 - 1))
def XJ : Sp := (.cut 7 1 .leaf (.cut 7 2 (.conj [(9, 0), (10, 0), (11, 0)] (.conj [(12, 0), (13, 0), (14, 0), (15, 0), (16, 0)] (.conj [(17, 0), (18, 0), (19, 0)] (.cut 5 1 (.cut 6 1 (.conj [(20, 0), (21, 0), (22, 0), (23, 0), (24, 0)] (.cut 25 0 .leaf (.cut 25 1 .leaf .leaf)) .leaf) .leaf) .leaf) .leaf) .leaf) .leaf) (.cut 7 3 (.cut 8 0 .leaf (.cut 8 1 (.cut 9 0 .leaf (.cut 9 16 (.cut 11 3 (.conj [(12, 0), (13, 0), (14, 0), (15, 0), (16, 0)] (.conj [(17, 0), (18, 0), (19, 0)] (.cut 5 1 (.cut 6 1 (.conj [(20, 0), (21, 0), (22, 0), (23, 0), (24, 0)] (.cut 25 0 .leaf (.cut 25 1 .leaf .leaf)) .leaf) .leaf) .leaf) .leaf) .leaf) .leaf) .leaf)) .leaf)) (.cut 7 4 (.cut 8 0 .leaf (.cut 8 1 (.cut 9 0 .leaf (.cut 9 16 (.cut 11 3 (.conj [(12, 0), (13, 0), (14, 0), (15, 0), (16, 0)] (.conj [(17, 0), (18, 0), (19, 0)] (.cut 5 1 (.cut 6 1 (.conj [(20, 0), (21, 0), (22, 0), (23, 0), (24, 0)] (.cut 25 0 .leaf (.cut 25 1 .leaf .leaf)) .leaf) .leaf) .leaf) .leaf) .leaf) .leaf) .leaf)) .leaf)) .leaf))))
def IL : Lf := (WQ.lo 4 2)
def I9 : Lf := (IL.hi 4 (3 - 1))
def a3e : Lf := (I9.hi 7 (1 - 1))
def YU : Sp := .leaf
def IC : Lf := (I9.lo 7 1)
def ER : Lf := (IC.hi 7 (2 - 1))
def Jg : Lf := (ER.all [(9, 0), (10, 0), (11, 0)])
def a2e : Lf := (Jg.hi 12 (1 - 1))
def Xp : Sp := .leaf
def IE : Lf := (Jg.lo 12 1)
def a2r : Lf := (IE.hi 12 (2 - 1))
def Zf : Sp := (.conj [(14, 0), (15, 0), (16, 0)] (.conj [(17, 0), (18, 0), (19, 0)] (.cut 5 1 .leaf (.cut 5 7 (.cut 6 1 (.conj [(20, 0), (21, 0), (22, 0), (23, 0), (24, 0)] (.cut 25 0 .leaf (.cut 25 1 (.cut 5 4 (.cut 5 2 .leaf (.cut 5 3 .leaf .leaf)) (.cut 5 5 .leaf (.cut 5 6 .leaf .leaf))) .leaf)) .leaf) .leaf) .leaf)) .leaf) .leaf)
def a3H : Lf := (IE.lo 12 2)
def Wl : Sp := (.cut 12 3 (.cut 13 0 .leaf (.cut 13 1 (.cut 14 0 .leaf (.cut 14 16 (.cut 16 3 (.conj [(17, 0), (18, 0), (19, 0)] (.cut 5 1 .leaf (.cut 5 7 (.cut 6 1 (.conj [(20, 0), (21, 0), (22, 0), (23, 0), (24, 0)] (.cut 25 0 .leaf (.cut 25 1 (.cut 5 4 (.cut 5 2 .leaf (.cut 5 3 .leaf .leaf)) (.cut 5 5 .leaf (.cut 5 6 .leaf .leaf))) .leaf)) .leaf) .leaf) .leaf)) .leaf) .leaf) .leaf)) .leaf)) (.cut 12 4 (.cut 13 0 .leaf (.cut 13 1 (.cut 14 0 .leaf (.cut 14 16 (.cut 16 3 (.conj [(17, 0), (18, 0), (19, 0)] (.cut 5 1 .leaf (.cut 5 7 (.cut 6 1 (.conj [(20, 0), (21, 0), (22, 0), (23, 0), (24, 0)] (.cut 25 0 .leaf (.cut 25 1 (.cut 5 4 (.cut 5 2 .leaf (.cut 5 3 .leaf .leaf)) (.cut 5 5 .leaf (.cut 5 6 .leaf .leaf))) .leaf)) .leaf) .leaf) .leaf)) .leaf) .leaf) .leaf)) .leaf)) .leaf))
def Ll : Sp := .cut 12 2 Zf Wl
def OC : Sp := .cut 12 1 Xp Ll
def a2Z : Lf := { ER with cf := [(9, 0), (10, 0), (11, 0)] :: ER.cf }
def X9 : Sp := .leaf
def Oo : Sp := .conj [(9, 0), (10, 0), (11, 0)] OC X9
def Ja : Lf := (IC.lo 7 2)
def Ie : Lf := (Ja.hi 7 (3 - 1))
def a2s : Lf := (Ie.hi 8 (0 - 1))
def XW : Sp := .leaf
def Je : Lf := (Ie.lo 8 0)
def Ic : Lf := (Je.hi 8 (1 - 1))
def a1w : Lf := (Ic.hi 9 (0 - 1))
def Wi : Sp := .leaf
def Ip : Lf := (Ic.lo 9 0)
def Ij : Lf := (Ip.hi 9 (16 - 1))
def J3 : Lf := (Ij.hi 11 (3 - 1))
def a1Z : Lf := (J3.hi 12 (1 - 1))
def X4 : Sp := .leaf
def IQ : Lf := (J3.lo 12 1)
def a2X : Lf := (IQ.hi 12 (2 - 1))
def XU : Sp := (.conj [(14, 0), (15, 0), (16, 0)] (.conj [(17, 0), (18, 0), (19, 0)] (.cut 5 1 .leaf (.cut 5 7 (.cut 6 1 (.conj [(20, 0), (21, 0), (22, 0), (23, 0), (24, 0)] (.cut 25 0 .leaf (.cut 25 1 (.cut 5 4 (.cut 5 2 .leaf (.cut 5 3 .leaf .leaf)) (.cut 5 5 .leaf (.cut 5 6 .leaf .leaf))) .leaf)) .leaf) .leaf) .leaf)) .leaf) .leaf)
def a1A : Lf := (IQ.lo 12 2)
def Zg : Sp := (.cut 12 3 (.cut 13 0 .leaf (.cut 13 1 (.cut 14 0 .leaf (.cut 14 16 (.cut 16 3 (.conj [(17, 0), (18, 0), (19, 0)] (.cut 5 1 .leaf (.cut 5 7 (.cut 6 1 (.conj [(20, 0), (21, 0), (22, 0), (23, 0), (24, 0)] (.cut 25 0 .leaf (.cut 25 1 (.cut 5 4 (.cut 5 2 .leaf (.cut 5 3 .leaf .leaf)) (.cut 5 5 .leaf (.cut 5 6 .leaf .leaf))) .leaf)) .leaf) .leaf) .leaf)) .leaf) .leaf) .leaf)) .leaf)) (.cut 12 4 (.cut 13 0 .leaf (.cut 13 1 (.cut 14 0 .leaf (.cut 14 16 (.cut 16 3 (.conj [(17, 0), (18, 0), (19, 0)] (.cut 5 1 .leaf (.cut 5 7 (.cut 6 1 (.conj [(20, 0), (21, 0), (22, 0), (23, 0), (24, 0)] (.cut 25 0 .leaf (.cut 25 1 (.cut 5 4 (.cut 5 2 .leaf (.cut 5 3 .leaf .leaf)) (.cut 5 5 .leaf (.cut 5 6 .leaf .leaf))) .leaf)) .leaf) .leaf) .leaf)) .leaf) .leaf) .leaf)) .leaf)) .leaf))
def Nk : Sp := .cut 12 2 XU Zg
def Ky : Sp := .cut 12 1 X4 Nk
def a3C : Lf := (Ij.lo 11 3)
def XC : Sp := .leaf
def Kr : Sp := .cut 11 3 Ky XC
def a2j : Lf := (Ip.lo 9 16)
def WH : Sp := .leaf
def Ls : Sp := .cut 9 16 Kr WH
def NQ : Sp := .cut 9 0 Wi Ls
def a3I : Lf := (Je.lo 8 1)
def YW : Sp := .leaf
def Oy : Sp := .cut 8 1 NQ YW
def KP : Sp := .cut 8 0 XW Oy
def Jd : Lf := (Ja.lo 7 3)
def J5 : Lf := (Jd.hi 7 (4 - 1))
def a1L : Lf := (J5.hi 8 (0 - 1))
def YF : Sp := .leaf
def IU : Lf := (J5.lo 8 0)
def IK : Lf := (IU.hi 8 (1 - 1))
def a3R : Lf := (IK.hi 9 (0 - 1))
def Yq : Sp := .leaf
def J6 : Lf := (IK.lo 9 0)
def I4 : Lf := (J6.hi 9 (16 - 1))
def IZ : Lf := (I4.hi 11 (3 - 1))
def a1r : Lf := (IZ.hi 12 (1 - 1))
def YK : Sp := .leaf
def IG : Lf := (IZ.lo 12 1)
def a2M : Lf := (IG.hi 12 (2 - 1))
def WL : Sp := (.conj [(14, 0), (15, 0), (16, 0)] (.conj [(17, 0), (18, 0), (19, 0)] (.cut 5 1 .leaf (.cut 5 7 (.cut 6 1 (.conj [(20, 0), (21, 0), (22, 0), (23, 0), (24, 0)] (.cut 25 0 .leaf (.cut 25 1 (.cut 5 4 (.cut 5 2 .leaf (.cut 5 3 .leaf .leaf)) (.cut 5 5 .leaf (.cut 5 6 .leaf .leaf))) .leaf)) .leaf) .leaf) .leaf)) .leaf) .leaf)
def a3t : Lf := (IG.lo 12 2)
def X8 : Sp := (.cut 12 3 (.cut 13 0 .leaf (.cut 13 1 (.cut 14 0 .leaf (.cut 14 16 (.cut 16 3 (.conj [(17, 0), (18, 0), (19, 0)] (.cut 5 1 .leaf (.cut 5 7 (.cut 6 1 (.conj [(20, 0), (21, 0), (22, 0), (23, 0), (24, 0)] (.cut 25 0 .leaf (.cut 25 1 (.cut 5 4 (.cut 5 2 .leaf (.cut 5 3 .leaf .leaf)) (.cut 5 5 .leaf (.cut 5 6 .leaf .leaf))) .leaf)) .leaf) .leaf) .leaf)) .leaf) .leaf) .leaf)) .leaf)) (.cut 12 4 (.cut 13 0 .leaf (.cut 13 1 (.cut 14 0 .leaf (.cut 14 16 (.cut 16 3 (.conj [(17, 0), (18, 0), (19, 0)] (.cut 5 1 .leaf (.cut 5 7 (.cut 6 1 (.conj [(20, 0), (21, 0), (22, 0), (23, 0), (24, 0)] (.cut 25 0 .leaf (.cut 25 1 (.cut 5 4 (.cut 5 2 .leaf (.cut 5 3 .leaf .leaf)) (.cut 5 5 .leaf (.cut 5 6 .leaf .leaf))) .leaf)) .leaf) .leaf) .leaf)) .leaf) .leaf) .leaf)) .leaf)) .leaf))
def KE : Sp := .cut 12 2 WL X8
def O8 : Sp := .cut 12 1 YK KE
def a3y : Lf := (I4.lo 11 3)
def Yf : Sp := .leaf
def NK : Sp := .cut 11 3 O8 Yf
def a1W : Lf := (J6.lo 9 16)
def Y9 : Sp := .leaf
def NM : Sp := .cut 9 16 NK Y9
def Lc : Sp := .cut 9 0 Yq NM
def a1u : Lf := (IU.lo 8 1)
def Xe : Sp := .leaf
def Ko : Sp := .cut 8 1 Lc Xe
def Nz : Sp := .cut 8 0 YF Ko
def a2K : Lf := (Jd.lo 7 4)
def Yz : Sp := .leaf
def Ob : Sp := .cut 7 4 Nz Yz
def Py : Sp := .cut 7 3 KP Ob
def NU : Sp := .cut 7 2 Oo Py
def PG : Sp := .cut 7 1 YU NU
def Jf : Lf := (IL.lo 4 3)
def IJ : Lf := (Jf.hi 4 (4 - 1))
def a2p : Lf := (IJ.hi 7 (1 - 1))
def WA : Sp := .leaf
def I7 : Lf := (IJ.lo 7 1)
def a3d : Lf := (I7.hi 7 (2 - 1))
def Ze : Sp := (.conj [(9, 0), (10, 0), (11, 0)] (.cut 12 1 .leaf (.cut 12 2 (.conj [(14, 0), (15, 0), (16, 0)] (.conj [(17, 0), (18, 0), (19, 0)] (.cut 5 1 (.cut 6 1 (.conj [(20, 0), (21, 0), (22, 0), (23, 0), (24, 0)] (.cut 25 0 .leaf (.cut 25 1 .leaf .leaf)) .leaf) .leaf) .leaf) .leaf) .leaf) (.cut 12 3 (.cut 13 0 .leaf (.cut 13 1 (.cut 14 0 .leaf (.cut 14 16 (.cut 16 3 (.conj [(17, 0), (18, 0), (19, 0)] (.cut 5 1 (.cut 6 1 (.conj [(20, 0), (21, 0), (22, 0), (23, 0), (24, 0)] (.cut 25 0 .leaf (.cut 25 1 .leaf .leaf)) .leaf) .leaf) .leaf) .leaf) .leaf) .leaf)) .leaf)) (.cut 12 4 (.cut 13 0 .leaf (.cut 13 1 (.cut 14 0 .leaf (.cut 14 16 (.cut 16 3 (.conj [(17, 0), (18, 0), (19, 0)] (.cut 5 1 (.cut 6 1 (.conj [(20, 0), (21, 0), (22, 0), (23, 0), (24, 0)] (.cut 25 0 .leaf (.cut 25 1 .leaf .leaf)) .leaf) .leaf) .leaf) .leaf) .leaf) .leaf)) .leaf)) .leaf)))) .leaf)
def J7 : Lf := (I7.lo 7 2)
def a3A : Lf := (J7.hi 7 (3 - 1))
def XQ : Sp := (.cut 8 0 .leaf (.cut 8 1 (.cut 9 0 .leaf (.cut 9 16 (.cut 11 3 (.cut 12 1 .leaf (.cut 12 2 (.conj [(14, 0), (15, 0), (16, 0)] (.conj [(17, 0), (18, 0), (19, 0)] (.cut 5 1 (.cut 6 1 (.conj [(20, 0), (21, 0), (22, 0), (23, 0), (24, 0)] (.cut 25 0 .leaf (.cut 25 1 .leaf .leaf)) .leaf) .leaf) .leaf) .leaf) .leaf) (.cut 12 3 (.cut 13 0 .leaf (.cut 13 1 (.cut 14 0 .leaf (.cut 14 16 (.cut 16 3 (.conj [(17, 0), (18, 0), (19, 0)] (.cut 5 1 (.cut 6 1 (.conj [(20, 0), (21, 0), (22, 0), (23, 0), (24, 0)] (.cut 25 0 .leaf (.cut 25 1 .leaf .leaf)) .leaf) .leaf) .leaf) .leaf) .leaf) .leaf)) .leaf)) (.cut 12 4 (.cut 13 0 .leaf (.cut 13 1 (.cut 14 0 .leaf (.cut 14 16 (.cut 16 3 (.conj [(17, 0), (18, 0), (19, 0)] (.cut 5 1 (.cut 6 1 (.conj [(20, 0), (21, 0), (22, 0), (23, 0), (24, 0)] (.cut 25 0 .leaf (.cut 25 1 .leaf .leaf)) .leaf) .leaf) .leaf) .leaf) .leaf) .leaf)) .leaf)) .leaf)))) .leaf) .leaf)) .leaf))
def a1P : Lf := (J7.lo 7 3)
def Yw : Sp := (.cut 7 4 (.cut 8 0 .leaf (.cut 8 1 (.cut 9 0 .leaf (.cut 9 16 (.cut 11 3 (.cut 12 1 .leaf (.cut 12 2 (.conj [(14, 0), (15, 0), (16, 0)] (.conj [(17, 0), (18, 0), (19, 0)] (.cut 5 1 (.cut 6 1 (.conj [(20, 0), (21, 0), (22, 0), (23, 0), (24, 0)] (.cut 25 0 .leaf (.cut 25 1 .leaf .leaf)) .leaf) .leaf) .leaf) .leaf) .leaf) (.cut 12 3 (.cut 13 0 .leaf (.cut 13 1 (.cut 14 0 .leaf (.cut 14 16 (.cut 16 3 (.conj [(17, 0), (18, 0), (19, 0)] (.cut 5 1 (.cut 6 1 (.conj [(20, 0), (21, 0), (22, 0), (23, 0), (24, 0)] (.cut 25 0 .leaf (.cut 25 1 .leaf .leaf)) .leaf) .leaf) .leaf) .leaf) .leaf) .leaf)) .leaf)) (.cut 12 4 (.cut 13 0 .leaf (.cut 13 1 (.cut 14 0 .leaf (.cut 14 16 (.cut 16 3 (.conj [(17, 0), (18, 0), (19, 0)] (.cut 5 1 (.cut 6 1 (.conj [(20, 0), (21, 0), (22, 0), (23, 0), (24, 0)] (.cut 25 0 .leaf (.cut 25 1 .leaf .leaf)) .leaf) .leaf) .leaf) .leaf) .leaf) .leaf)) .leaf)) .leaf)))) .leaf) .leaf)) .leaf)) .leaf)
def MW : Sp := .cut 7 3 XQ Yw
def Nj : Sp := .cut 7 2 Ze MW
def KY : Sp := .cut 7 1 WA Nj
def a3k : Lf := (Jf.lo 4 4)
def Ws : Sp := (.cut 4 5 (.conj [(7, 0), (8, 0), (9, 0), (10, 0), (11, 0)] (.conj [(12, 0), (13, 0), (14, 0), (15, 0), (16, 0)] (.cut 17 0 .leaf (.cut 17 16 (.cut 19 3 (.cut 5 1 (.cut 6 1 .leaf (.cut 6 4 (.conj [(20, 0), (21, 0), (22, 0), (23, 0), (24, 0)] (.cut 25 0 .leaf (.cut 25 1 (.cut 6 2 .leaf (.cut 6 3 .leaf .leaf)) .leaf)) .leaf) .leaf)) .leaf) .leaf) .leaf)) .leaf) .leaf) (.cut 4 6 (.conj [(7, 0), (8, 0), (9, 0), (10, 0), (11, 0)] (.conj [(12, 0), (13, 0), (14, 0), (15, 0), (16, 0)] (.cut 17 0 .leaf (.cut 17 16 (.cut 19 3 (.cut 5 1 (.cut 6 1 (.conj [(20, 0), (21, 0), (22, 0), (23, 0), (24, 0)] (.cut 25 0 .leaf (.cut 25 1 .leaf .leaf)) .leaf) .leaf) .leaf) .leaf) .leaf)) .leaf) .leaf) .leaf))
def LZ : Sp := .cut 4 4 KY Ws
def OJ : Sp := .cut 4 3 PG LZ
def a1c : Sp := .cut 4 2 XJ OJ
def ZF : Sp := .cut 4 1 ah7 a1c
def a1X : Lf := (Yv.lo 3 3)
def WB : Sp := .leaf
def a0z : Sp := .cut 3 3 ZF WB
def a3O : Lf := (YO.lo 1 16)
def YM : Sp := .leaf
def Zp : Sp := .cut 1 16 a0z YM
def a0t : Sp := .cut 1 0 aaU Zp
def Iy : Lf := (Wp.lo 0 2)
def a2c : Lf := (Iy.hi 0 (3 - 1))
def X5 : Sp := (.conj [(1, 0), (2, 0), (3, 0)] (.conj [(4, 0), (5, 0), (6, 0), (7, 0), (8, 0), (9, 0), (10, 0), (11, 0), (12, 0), (13, 0), (14, 0), (15, 0), (16, 0), (17, 0), (18, 0), (19, 0)] (.cut 20 1 .leaf (.cut 20 2 (.conj [(22, 0), (23, 0), (24, 0)] (.cut 25 0 .leaf (.cut 25 1 .leaf .leaf)) .leaf) (.cut 20 3 (.cut 21 0 .leaf (.cut 21 1 (.cut 22 0 .leaf (.cut 22 16 (.cut 24 3 (.cut 25 0 .leaf (.cut 25 1 .leaf .leaf)) .leaf) .leaf)) .leaf)) (.cut 20 4 (.cut 21 0 .leaf (.cut 21 1 (.cut 22 0 .leaf (.cut 22 16 (.cut 24 3 (.cut 25 0 .leaf (.cut 25 1 .leaf .leaf)) .leaf) .leaf)) .leaf)) .leaf)))) .leaf) .leaf)
def Ib : Lf := (Iy.lo 0 3)
def a3v : Lf := (Ib.hi 0 (4 - 1))
def Xd : Sp := (.conj [(1, 0), (2, 0), (3, 0)] (.conj [(4, 0), (5, 0), (6, 0), (7, 0), (8, 0), (9, 0), (10, 0), (11, 0), (12, 0), (13, 0), (14, 0), (15, 0), (16, 0), (17, 0), (18, 0), (19, 0)] (.conj [(20, 0), (21, 0), (22, 0), (23, 0), (24, 0)] (.cut 25 0 .leaf (.cut 25 16 (.cut 25 10 (.cut 25 5 (.cut 25 2 (.cut 25 1 .leaf .leaf) (.cut 25 3 .leaf (.cut 25 4 .leaf .leaf))) (.cut 25 7 (.cut 25 6 .leaf .leaf) (.cut 25 8 .leaf (.cut 25 9 .leaf .leaf)))) (.cut 25 13 (.cut 25 11 .leaf (.cut 25 12 .leaf .leaf)) (.cut 25 14 .leaf (.cut 25 15 .leaf .leaf)))) .leaf)) .leaf) .leaf) .leaf)
def a1N : Lf := (Ib.lo 0 4)
def Xc : Sp := (.cut 0 5 (.conj [(1, 0), (2, 0), (3, 0)] (.conj [(4, 0), (5, 0), (6, 0), (7, 0), (8, 0), (9, 0), (10, 0), (11, 0), (12, 0), (13, 0), (14, 0), (15, 0), (16, 0), (17, 0), (18, 0), (19, 0)] (.cut 20 1 .leaf (.cut 20 2 (.conj [(22, 0), (23, 0), (24, 0)] (.cut 25 0 .leaf (.cut 25 1 .leaf .leaf)) .leaf) (.cut 20 3 (.cut 21 0 .leaf (.cut 21 1 (.cut 22 0 .leaf (.cut 22 16 (.cut 24 3 (.cut 25 0 .leaf (.cut 25 1 .leaf .leaf)) .leaf) .leaf)) .leaf)) (.cut 20 4 (.cut 21 0 .leaf (.cut 21 1 (.cut 22 0 .leaf (.cut 22 16 (.cut 24 3 (.cut 25 0 .leaf (.cut 25 1 .leaf .leaf)) .leaf) .leaf)) .leaf)) .leaf)))) .leaf) .leaf) .leaf)
def OB : Sp := .cut 0 4 Xd Xc
def Ox : Sp := .cut 0 3 X5 OB
def a0m : Sp := .cut 0 2 a0t Ox
def a6i : Sp := .cut 0 1 a9v a0m
def aC (L : Lf) : Bool := y5 dn kSt mS2 (stX true kSt tsP L (pq kSt L)) L (ahY 39 kSt tsP L)
def aB (L : Lf) : Bool := y5 dn kSt mS1 (stX false kSt tsP L (pq kSt L)) L (ahY 86 kSt tsP L)
theorem ahr : (a9v.leaves aiA).all aC = true := by kernel_rfl
theorem aeG : (aaU.leaves ahG).all aC = true := by kernel_rfl
theorem aeD : (ah7.leaves akg).all aC = true := by kernel_rfl
theorem a4h : (XJ.leaves a2m).all aC = true := by kernel_rfl
theorem a5N : (YU.leaves a3e).all aC = true := by kernel_rfl
theorem a7Y : (Xp.leaves a2e).all aC = true := by kernel_rfl
theorem a4o : (Zf.leaves a2r).all aC = true := by kernel_rfl
theorem a7s : (Wl.leaves a3H).all aC = true := by kernel_rfl
theorem a4i : (X9.leaves a2Z).all aC = true := by kernel_rfl
theorem a7S : (XW.leaves a2s).all aC = true := by kernel_rfl
theorem a6m : (Wi.leaves a1w).all aC = true := by kernel_rfl
theorem a5d : (X4.leaves a1Z).all aC = true := by kernel_rfl
theorem a4w : (XU.leaves a2X).all aC = true := by kernel_rfl
theorem a5a : (Zg.leaves a1A).all aC = true := by kernel_rfl
theorem a5y : (XC.leaves a3C).all aC = true := by kernel_rfl
theorem a5k : (WH.leaves a2j).all aC = true := by kernel_rfl
theorem a6Y : (YW.leaves a3I).all aC = true := by kernel_rfl
theorem a5u : (YF.leaves a1L).all aC = true := by kernel_rfl
theorem a4X : (Yq.leaves a3R).all aC = true := by kernel_rfl
theorem a7J : (YK.leaves a1r).all aC = true := by kernel_rfl
theorem a4S : (WL.leaves a2M).all aC = true := by kernel_rfl
theorem a7T : (X8.leaves a3t).all aC = true := by kernel_rfl
theorem a4J : (Yf.leaves a3y).all aC = true := by kernel_rfl
theorem a5J : (Y9.leaves a1W).all aC = true := by kernel_rfl
theorem a5X : (Xe.leaves a1u).all aC = true := by kernel_rfl
theorem a7j : (Yz.leaves a2K).all aC = true := by kernel_rfl
theorem a8y : (WA.leaves a2p).all aC = true := by kernel_rfl
theorem a6l : (Ze.leaves a3d).all aC = true := by kernel_rfl
theorem a6f : (XQ.leaves a3A).all aC = true := by kernel_rfl
theorem a5o : (Yw.leaves a1P).all aC = true := by kernel_rfl
theorem a5D : (Ws.leaves a3k).all aC = true := by kernel_rfl
theorem a8k : (WB.leaves a1X).all aC = true := by kernel_rfl
theorem a7q : (YM.leaves a3O).all aC = true := by kernel_rfl
theorem a6k : (X5.leaves a2c).all aC = true := by kernel_rfl
theorem a5U : (Xd.leaves a3v).all aC = true := by kernel_rfl
theorem a4T : (Xc.leaves a1N).all aC = true := by kernel_rfl
theorem a7M : (Ll.leaves IE).all aC = true := by
 have e : Ll.leaves IE = Zf.leaves a2r ++ Wl.leaves a3H := rfl
 rw [e]
 simp only [apu, a4o, a7s, apv]
theorem a4n : (OC.leaves Jg).all aC = true := by
 have e : OC.leaves Jg = Xp.leaves a2e ++ Ll.leaves IE := rfl
 rw [e]
 simp only [apu, a7Y, a7M, apv]
theorem a6Q : (Oo.leaves ER).all aC = true := by
 have e : Oo.leaves ER = OC.leaves Jg ++ X9.leaves a2Z := rfl
 rw [e]
 simp only [apu, a4n, a4i, apv]
theorem a7a : (Nk.leaves IQ).all aC = true := by
 have e : Nk.leaves IQ = XU.leaves a2X ++ Zg.leaves a1A := rfl
 rw [e]
 simp only [apu, a4w, a5a, apv]
theorem a7n : (Ky.leaves J3).all aC = true := by
 have e : Ky.leaves J3 = X4.leaves a1Z ++ Nk.leaves IQ := rfl
 rw [e]
 simp only [apu, a5d, a7a, apv]
theorem a6L : (Kr.leaves Ij).all aC = true := by
 have e : Kr.leaves Ij = Ky.leaves J3 ++ XC.leaves a3C := rfl
 rw [e]
 simp only [apu, a7n, a5y, apv]
theorem a7H : (Ls.leaves Ip).all aC = true := by
 have e : Ls.leaves Ip = Kr.leaves Ij ++ WH.leaves a2j := rfl
 rw [e]
 simp only [apu, a6L, a5k, apv]
theorem a6T : (NQ.leaves Ic).all aC = true := by
 have e : NQ.leaves Ic = Wi.leaves a1w ++ Ls.leaves Ip := rfl
 rw [e]
 simp only [apu, a6m, a7H, apv]
theorem a4k : (Oy.leaves Je).all aC = true := by
 have e : Oy.leaves Je = NQ.leaves Ic ++ YW.leaves a3I := rfl
 rw [e]
 simp only [apu, a6T, a6Y, apv]
theorem a5f : (KP.leaves Ie).all aC = true := by
 have e : KP.leaves Ie = XW.leaves a2s ++ Oy.leaves Je := rfl
 rw [e]
 simp only [apu, a7S, a4k, apv]
theorem a7O : (KE.leaves IG).all aC = true := by
 have e : KE.leaves IG = WL.leaves a2M ++ X8.leaves a3t := rfl
 rw [e]
 simp only [apu, a4S, a7T, apv]
theorem a5q : (O8.leaves IZ).all aC = true := by
 have e : O8.leaves IZ = YK.leaves a1r ++ KE.leaves IG := rfl
 rw [e]
 simp only [apu, a7J, a7O, apv]
theorem a8C : (NK.leaves I4).all aC = true := by
 have e : NK.leaves I4 = O8.leaves IZ ++ Yf.leaves a3y := rfl
 rw [e]
 simp only [apu, a5q, a4J, apv]
theorem a7y : (NM.leaves J6).all aC = true := by
 have e : NM.leaves J6 = NK.leaves I4 ++ Y9.leaves a1W := rfl
 rw [e]
 simp only [apu, a8C, a5J, apv]
theorem a6j : (Lc.leaves IK).all aC = true := by
 have e : Lc.leaves IK = Yq.leaves a3R ++ NM.leaves J6 := rfl
 rw [e]
 simp only [apu, a4X, a7y, apv]
theorem a8v : (Ko.leaves IU).all aC = true := by
 have e : Ko.leaves IU = Lc.leaves IK ++ Xe.leaves a1u := rfl
 rw [e]
 simp only [apu, a6j, a5X, apv]
theorem a6B : (Nz.leaves J5).all aC = true := by
 have e : Nz.leaves J5 = YF.leaves a1L ++ Ko.leaves IU := rfl
 rw [e]
 simp only [apu, a5u, a8v, apv]
theorem a7h : (Ob.leaves Jd).all aC = true := by
 have e : Ob.leaves Jd = Nz.leaves J5 ++ Yz.leaves a2K := rfl
 rw [e]
 simp only [apu, a6B, a7j, apv]
theorem a4u : (Py.leaves Ja).all aC = true := by
 have e : Py.leaves Ja = KP.leaves Ie ++ Ob.leaves Jd := rfl
 rw [e]
 simp only [apu, a5f, a7h, apv]
theorem a6R : (NU.leaves IC).all aC = true := by
 have e : NU.leaves IC = Oo.leaves ER ++ Py.leaves Ja := rfl
 rw [e]
 simp only [apu, a6Q, a4u, apv]
theorem a5i : (PG.leaves I9).all aC = true := by
 have e : PG.leaves I9 = YU.leaves a3e ++ NU.leaves IC := rfl
 rw [e]
 simp only [apu, a5N, a6R, apv]
theorem a8l : (MW.leaves J7).all aC = true := by
 have e : MW.leaves J7 = XQ.leaves a3A ++ Yw.leaves a1P := rfl
 rw [e]
 simp only [apu, a6f, a5o, apv]
theorem a6C : (Nj.leaves I7).all aC = true := by
 have e : Nj.leaves I7 = Ze.leaves a3d ++ MW.leaves J7 := rfl
 rw [e]
 simp only [apu, a6l, a8l, apv]
theorem a4q : (KY.leaves IJ).all aC = true := by
 have e : KY.leaves IJ = WA.leaves a2p ++ Nj.leaves I7 := rfl
 rw [e]
 simp only [apu, a8y, a6C, apv]
theorem a6A : (LZ.leaves Jf).all aC = true := by
 have e : LZ.leaves Jf = KY.leaves IJ ++ Ws.leaves a3k := rfl
 rw [e]
 simp only [apu, a4q, a5D, apv]
theorem a6p : (OJ.leaves IL).all aC = true := by
 have e : OJ.leaves IL = PG.leaves I9 ++ LZ.leaves Jf := rfl
 rw [e]
 simp only [apu, a5i, a6A, apv]
theorem acN : (a1c.leaves WQ).all aC = true := by
 have e : a1c.leaves WQ = XJ.leaves a2m ++ OJ.leaves IL := rfl
 rw [e]
 simp only [apu, a4h, a6p, apv]
theorem aa5 : (ZF.leaves Y0).all aC = true := by
 have e : ZF.leaves Y0 = ah7.leaves akg ++ a1c.leaves WQ := rfl
 rw [e]
 simp only [apu, aeD, acN, apv]
theorem agj : (a0z.leaves Yv).all aC = true := by
 have e : a0z.leaves Yv = ZF.leaves Y0 ++ WB.leaves a1X := rfl
 rw [e]
 simp only [apu, aa5, a8k, apv]
theorem agz : (Zp.leaves YO).all aC = true := by
 have e : Zp.leaves YO = a0z.leaves Yv ++ YM.leaves a3O := rfl
 rw [e]
 simp only [apu, agj, a7q, apv]
theorem abp : (a0t.leaves WE).all aC = true := by
 have e : a0t.leaves WE = aaU.leaves ahG ++ Zp.leaves YO := rfl
 rw [e]
 simp only [apu, aeG, agz, apv]
theorem a5Q : (OB.leaves Ib).all aC = true := by
 have e : OB.leaves Ib = Xd.leaves a3v ++ Xc.leaves a1N := rfl
 rw [e]
 simp only [apu, a5U, a4T, apv]
theorem a6n : (Ox.leaves Iy).all aC = true := by
 have e : Ox.leaves Iy = X5.leaves a2c ++ OB.leaves Ib := rfl
 rw [e]
 simp only [apu, a6k, a5Q, apv]
theorem adf : (a0m.leaves Wp).all aC = true := by
 have e : a0m.leaves Wp = a0t.leaves WE ++ Ox.leaves Iy := rfl
 rw [e]
 simp only [apu, abp, a6n, apv]
theorem aep : (a6i.leaves a5r).all aC = true := by
 have e : a6i.leaves a5r = a9v.leaves aiA ++ a0m.leaves Wp := rfl
 rw [e]
 simp only [apu, ahr, adf, apv]
theorem a0Y : Texts Tryz.prog dL 39 kSt dn (fun us => stT (uz us)) vS2 := SN VE (pls := tsP) (fun L xs => stX true kSt tsP L xs) (fun b0 L r xs us l hL d e ha h => @aaj b0 r L kSt tsP xs us hL d e ha _ l h) (by kernel_rfl) (sp := a6i) aep
end Am
end Go.Proofs.YtglmonlofejcgaaGreatDoor
