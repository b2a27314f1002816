/- pawnshopref05.Written: the texts of statements. -/
import Derived.Test.YtglmonlofejcgaaGreatDoorTexts5A
set_option maxRecDepth 100000
open List renaming all_append → apu
open Bool renaming and_self → apv
namespace Go.Proofs.YtglmonlofejcgaaGreatDoor
namespace Am
open Go.RowKit
theorem ah0 : (a9v.leaves aiA).all aB = true := by kernel_rfl
theorem agF : (aaU.leaves ahG).all aB = true := by kernel_rfl
theorem ab9 : (ah7.leaves akg).all aB = true := by kernel_rfl
theorem a7u : (XJ.leaves a2m).all aB = true := by kernel_rfl
theorem a6u : (YU.leaves a3e).all aB = true := by kernel_rfl
theorem a7v : (Xp.leaves a2e).all aB = true := by kernel_rfl
theorem a8g : (Zf.leaves a2r).all aB = true := by kernel_rfl
theorem a4O : (Wl.leaves a3H).all aB = true := by kernel_rfl
theorem a6D : (X9.leaves a2Z).all aB = true := by kernel_rfl
theorem a5C : (XW.leaves a2s).all aB = true := by kernel_rfl
theorem a6q : (Wi.leaves a1w).all aB = true := by kernel_rfl
theorem a6s : (X4.leaves a1Z).all aB = true := by kernel_rfl
theorem a5M : (XU.leaves a2X).all aB = true := by kernel_rfl
theorem a81 : (Zg.leaves a1A).all aB = true := by kernel_rfl
theorem a6h : (XC.leaves a3C).all aB = true := by kernel_rfl
theorem a4x : (WH.leaves a2j).all aB = true := by kernel_rfl
theorem a7F : (YW.leaves a3I).all aB = true := by kernel_rfl
theorem a5T : (YF.leaves a1L).all aB = true := by kernel_rfl
theorem a4g : (Yq.leaves a3R).all aB = true := by kernel_rfl
theorem a4r : (YK.leaves a1r).all aB = true := by kernel_rfl
theorem a88 : (WL.leaves a2M).all aB = true := by kernel_rfl
theorem a5H : (X8.leaves a3t).all aB = true := by kernel_rfl
theorem a4L : (Yf.leaves a3y).all aB = true := by kernel_rfl
theorem a8d : (Y9.leaves a1W).all aB = true := by kernel_rfl
theorem a5c : (Xe.leaves a1u).all aB = true := by kernel_rfl
theorem a4Q : (Yz.leaves a2K).all aB = true := by kernel_rfl
theorem a7B : (WA.leaves a2p).all aB = true := by kernel_rfl
theorem a5Y : (Ze.leaves a3d).all aB = true := by kernel_rfl
theorem a5e : (XQ.leaves a3A).all aB = true := by kernel_rfl
theorem a7K : (Yw.leaves a1P).all aB = true := by kernel_rfl
theorem a6b : (Ws.leaves a3k).all aB = true := by kernel_rfl
theorem a8j : (WB.leaves a1X).all aB = true := by kernel_rfl
theorem a5z : (YM.leaves a3O).all aB = true := by kernel_rfl
theorem a7A : (X5.leaves a2c).all aB = true := by kernel_rfl
theorem a6c : (Xd.leaves a3v).all aB = true := by kernel_rfl
theorem a6H : (Xc.leaves a1N).all aB = true := by kernel_rfl
theorem a7c : (Ll.leaves IE).all aB = true := by
 have e : Ll.leaves IE = Zf.leaves a2r ++ Wl.leaves a3H := rfl
 rw [e]
 simp only [apu, a8g, a4O, apv]
theorem a5E : (OC.leaves Jg).all aB = true := by
 have e : OC.leaves Jg = Xp.leaves a2e ++ Ll.leaves IE := rfl
 rw [e]
 simp only [apu, a7v, a7c, apv]
theorem a4H : (Oo.leaves ER).all aB = true := by
 have e : Oo.leaves ER = OC.leaves Jg ++ X9.leaves a2Z := rfl
 rw [e]
 simp only [apu, a5E, a6D, apv]
theorem a4f : (Nk.leaves IQ).all aB = true := by
 have e : Nk.leaves IQ = XU.leaves a2X ++ Zg.leaves a1A := rfl
 rw [e]
 simp only [apu, a5M, a81, apv]
theorem a4l : (Ky.leaves J3).all aB = true := by
 have e : Ky.leaves J3 = X4.leaves a1Z ++ Nk.leaves IQ := rfl
 rw [e]
 simp only [apu, a6s, a4f, apv]
theorem a4Z : (Kr.leaves Ij).all aB = true := by
 have e : Kr.leaves Ij = Ky.leaves J3 ++ XC.leaves a3C := rfl
 rw [e]
 simp only [apu, a4l, a6h, apv]
theorem a5n : (Ls.leaves Ip).all aB = true := by
 have e : Ls.leaves Ip = Kr.leaves Ij ++ WH.leaves a2j := rfl
 rw [e]
 simp only [apu, a4Z, a4x, apv]
theorem a7P : (NQ.leaves Ic).all aB = true := by
 have e : NQ.leaves Ic = Wi.leaves a1w ++ Ls.leaves Ip := rfl
 rw [e]
 simp only [apu, a6q, a5n, apv]
theorem a7b : (Oy.leaves Je).all aB = true := by
 have e : Oy.leaves Je = NQ.leaves Ic ++ YW.leaves a3I := rfl
 rw [e]
 simp only [apu, a7P, a7F, apv]
theorem a8i : (KP.leaves Ie).all aB = true := by
 have e : KP.leaves Ie = XW.leaves a2s ++ Oy.leaves Je := rfl
 rw [e]
 simp only [apu, a5C, a7b, apv]
theorem a5m : (KE.leaves IG).all aB = true := by
 have e : KE.leaves IG = WL.leaves a2M ++ X8.leaves a3t := rfl
 rw [e]
 simp only [apu, a88, a5H, apv]
theorem a4R : (O8.leaves IZ).all aB = true := by
 have e : O8.leaves IZ = YK.leaves a1r ++ KE.leaves IG := rfl
 rw [e]
 simp only [apu, a4r, a5m, apv]
theorem a8x : (NK.leaves I4).all aB = true := by
 have e : NK.leaves I4 = O8.leaves IZ ++ Yf.leaves a3y := rfl
 rw [e]
 simp only [apu, a4R, a4L, apv]
theorem a8n : (NM.leaves J6).all aB = true := by
 have e : NM.leaves J6 = NK.leaves I4 ++ Y9.leaves a1W := rfl
 rw [e]
 simp only [apu, a8x, a8d, apv]
theorem a6M : (Lc.leaves IK).all aB = true := by
 have e : Lc.leaves IK = Yq.leaves a3R ++ NM.leaves J6 := rfl
 rw [e]
 simp only [apu, a4g, a8n, apv]
theorem a4E : (Ko.leaves IU).all aB = true := by
 have e : Ko.leaves IU = Lc.leaves IK ++ Xe.leaves a1u := rfl
 rw [e]
 simp only [apu, a6M, a5c, apv]
theorem a8q : (Nz.leaves J5).all aB = true := by
 have e : Nz.leaves J5 = YF.leaves a1L ++ Ko.leaves IU := rfl
 rw [e]
 simp only [apu, a5T, a4E, apv]
theorem a6U : (Ob.leaves Jd).all aB = true := by
 have e : Ob.leaves Jd = Nz.leaves J5 ++ Yz.leaves a2K := rfl
 rw [e]
 simp only [apu, a8q, a4Q, apv]
theorem a6v : (Py.leaves Ja).all aB = true := by
 have e : Py.leaves Ja = KP.leaves Ie ++ Ob.leaves Jd := rfl
 rw [e]
 simp only [apu, a8i, a6U, apv]
theorem a7e : (NU.leaves IC).all aB = true := by
 have e : NU.leaves IC = Oo.leaves ER ++ Py.leaves Ja := rfl
 rw [e]
 simp only [apu, a4H, a6v, apv]
theorem a5v : (PG.leaves I9).all aB = true := by
 have e : PG.leaves I9 = YU.leaves a3e ++ NU.leaves IC := rfl
 rw [e]
 simp only [apu, a6u, a7e, apv]
theorem a6E : (MW.leaves J7).all aB = true := by
 have e : MW.leaves J7 = XQ.leaves a3A ++ Yw.leaves a1P := rfl
 rw [e]
 simp only [apu, a5e, a7K, apv]
theorem a8A : (Nj.leaves I7).all aB = true := by
 have e : Nj.leaves I7 = Ze.leaves a3d ++ MW.leaves J7 := rfl
 rw [e]
 simp only [apu, a5Y, a6E, apv]
theorem a4G : (KY.leaves IJ).all aB = true := by
 have e : KY.leaves IJ = WA.leaves a2p ++ Nj.leaves I7 := rfl
 rw [e]
 simp only [apu, a7B, a8A, apv]
theorem a4I : (LZ.leaves Jf).all aB = true := by
 have e : LZ.leaves Jf = KY.leaves IJ ++ Ws.leaves a3k := rfl
 rw [e]
 simp only [apu, a4G, a6b, apv]
theorem a8w : (OJ.leaves IL).all aB = true := by
 have e : OJ.leaves IL = PG.leaves I9 ++ LZ.leaves Jf := rfl
 rw [e]
 simp only [apu, a5v, a4I, apv]
theorem aer : (a1c.leaves WQ).all aB = true := by
 have e : a1c.leaves WQ = XJ.leaves a2m ++ OJ.leaves IL := rfl
 rw [e]
 simp only [apu, a7u, a8w, apv]
theorem aaK : (ZF.leaves Y0).all aB = true := by
 have e : ZF.leaves Y0 = ah7.leaves akg ++ a1c.leaves WQ := rfl
 rw [e]
 simp only [apu, ab9, aer, apv]
theorem ad9 : (a0z.leaves Yv).all aB = true := by
 have e : a0z.leaves Yv = ZF.leaves Y0 ++ WB.leaves a1X := rfl
 rw [e]
 simp only [apu, aaK, a8j, apv]
theorem a9D : (Zp.leaves YO).all aB = true := by
 have e : Zp.leaves YO = a0z.leaves Yv ++ YM.leaves a3O := rfl
 rw [e]
 simp only [apu, ad9, a5z, apv]
theorem afm : (a0t.leaves WE).all aB = true := by
 have e : a0t.leaves WE = aaU.leaves ahG ++ Zp.leaves YO := rfl
 rw [e]
 simp only [apu, agF, a9D, apv]
theorem a7D : (OB.leaves Ib).all aB = true := by
 have e : OB.leaves Ib = Xd.leaves a3v ++ Xc.leaves a1N := rfl
 rw [e]
 simp only [apu, a6c, a6H, apv]
theorem a7t : (Ox.leaves Iy).all aB = true := by
 have e : Ox.leaves Iy = X5.leaves a2c ++ OB.leaves Ib := rfl
 rw [e]
 simp only [apu, a7A, a7D, apv]
theorem ad2 : (a0m.leaves Wp).all aB = true := by
 have e : a0m.leaves Wp = a0t.leaves WE ++ Ox.leaves Iy := rfl
 rw [e]
 simp only [apu, afm, a7t, apv]
theorem afU : (a6i.leaves a5r).all aB = true := by
 have e : a6i.leaves a5r = a9v.leaves aiA ++ a0m.leaves Wp := rfl
 rw [e]
 simp only [apu, ah0, ad2, apv]
theorem ZC : Texts Tryz.prog dL 86 kSt dn (fun us => stT (uz us)) vS1 := SN Vj (pls := tsP) (fun L xs => stX false kSt tsP L xs) (fun b0 L r xs us l hL d e ha h => @aaj b0 r L kSt tsP xs us hL d e ha _ l h) (by kernel_rfl) (sp := a6i) afU
end Am
end Go.Proofs.YtglmonlofejcgaaGreatDoor
