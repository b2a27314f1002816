/- pawnshopref08.Check: what it answers at any program. -/
import Derived.Test.YtnhnelgkcldkbaaGreatDoorPgD
set_option linter.all false
set_option maxHeartbeats 8000000
set_option maxRecDepth 100000
namespace Go.Proofs.YtnhnelgkcldkbaaGreatDoor
namespace prg
open Go.RowKit Am loan bld
theorem Yw {w:World}{v fv:Value}{Ds:List FnD}(h:dS w v fv Ds)(hn:8<Ds.length):Calls Tryz.prog 7 #[v] w (bld.Ans w (.int .i64 4)):=by
 obtain⟨A,c,e,_,hm,hr⟩:=h.rows
 rw[e]
 have hd:decide ((Ds.length:Int)>8)=true:=afn (by omega)
 have b0:Below w.heap.size w (w.alloc (.cells #[.slice A Ds.length c] tPr)):=(ahE _ _).alloc (aeM _) _
 have HB:=Lib.hid b0
 clear h hr e b0
 go_enter Tryz.func7,Tryz.ntmps7
 go_wp2_with fail
 go_ret
 exact⟨rfl,HB.out⟩
theorem YV {w:World}{v fv:Value}{Ds:List FnD}(h:dS w v fv Ds)(hn:Ds.length=0):Calls Tryz.prog 7 #[v] w (bld.Ans w (.int .i64 8)):=by
 obtain⟨A,c,e,_,hm,hr⟩:=h.rows
 rw[e,hn]
 have b0:Below w.heap.size w (w.alloc (.cells #[.slice A 0 c] tPr)):=(ahE _ _).alloc (aeM _) _
 have HB:=Lib.hid b0
 clear h hr e b0
 go_enter Tryz.func7,Tryz.ntmps7
 go_wp2_with fail
 go_ret
 exact⟨rfl,HB.out⟩
theorem aa1 {w:World}{v fv:Value}{Ds:List FnD}(h:dS w v fv Ds)(h0:0<Ds.length)(h8:Ds.length<=8):Calls Tryz.prog 7 #[v] w (bld.Ans w (.int .i64 (jX Ds))):=by
 obtain⟨A,c,e,_,hm,hr⟩:=h.rows
 have hP:jX Ds=if sF Ds=0 then(if lY Ds&&ou Ds then 0 else 8)else sF Ds:=by unfold jX;rw[afc (by omega),afc (by omega)]
 have HPP:=Lib.hid hP
 have hd8:decide ((Ds.length:Int)>8)=false:=af2 (by omega)
 have h8n:¬(8:Int)<(Ds.length:Int):=by omega
 have hne0:((Ds.length:Int)==0)=false:=by rw[ah1];omega
 have HF:=Lib.hid (λ(D:FnD) (hD:D∈Ds) (W:World) (hW:Below w.heap.size w W)=>txt.adl ((h.fn D hD).frz hW.block) W (ahE _ _))
 have HOK:=Lib.hid h.fn
 rw[e]
 obtain⟨w1,hw1⟩:∃w1,w1=w.alloc (.cells #[.slice A Ds.length c] tPr):=⟨_,rfl⟩
 have b0:Below w.heap.size w w1:=by rw[hw1];exact(ahE _ _).alloc (aeM _) _
 have P0:w1.heap[w.heap.size]? =some (.cells #[.slice A Ds.length c] tPr (0,0)):=by rw[hw1];exact ay rfl
 have p0:w1.cell? ⟨w.heap.size,0,none⟩=some (.slice A Ds.length c):=by rw[ahF _ w.heap.size 0 _ _ (0,0) P0];rfl
 have l1:w.heap.size<w1.heap.size:=by rw[hw1];simp
 have HB:=Lib.hid b0
 have HR:=Lib.hid hr
 have HP0:=Lib.hid P0
 clear h hr e b0 hP P0
 go_enter Tryz.func7,Tryz.ntmps7
 go_upto_region 1 with fail
 rw[<-hw1]
 clear hw1
 go_wp2_with fail
 clear p0
 go_loopg [3] Ds.length (λg s3 w8=>∃i:Nat,s3=.int .i64 i/\i<=Ds.length/\g=Ds.length-i/\(∀D∈Ds.take i,check.iY D=0)/\Below w1.heap.size w1 w8)
 case atStart=>exact⟨0,rfl,afb _,rfl,(by simp),ahE _ _⟩
 case round=>
  obtain⟨i,rfl,hi,rfl,hno,hbel⟩:=hrel
  have h0I:(0:Int)<=(i:Int):=afa _
  have p0:=(hbel.block _ l1).trans HP0.out
  have q0:wr.cell? ⟨w.heap.size,0,none⟩=some (.slice A Ds.length c):=by rw[ahF _ w.heap.size 0 _ _ (0,0) p0];rfl
  have HBL:=Lib.hid hbel
  have HO:=Lib.hid (HB.out.trans (hbel.mono HB.out.size))
  have HNO:=Lib.hid hno
  have HP:=Lib.hid p0
  clear hbel hno p0
  rcases afp i Ds.length with hlt|hge
  ·have hltI:(i:Int)<(Ds.length:Int):=by omega
   obtain⟨D,hD⟩:∃D,Ds[i]? =some D:=⟨_,aeK hlt⟩
   obtain⟨g,o,eA,hg,hc⟩:=iZ (HR.out.below HO.out) hD
   subst eA
   have HC:=Lib.hid hc
   have HD:=Lib.hid hD
   have hDm:=aeY hD
   have HCK:=Lib.hid (HF.out D hDm)
   clear hc hD
   by_cases hz:check.iY D=0
   ·have HZ:=Lib.hid hz
    rw[hz]at HCK
    clear hz
    go_wp2_with (first |(refine wpList_load_mid rfl tFn _ rfl g (o+i*4) rfl [.int .i64 D.p,.bool D.u,D.lv,D.bv] _ HC.out Tryz.underlying40 rfl fnR ?_)|(go_at_call 41;refine(HCK.out _ HO.out).mono ?_;rintro e w2 ⟨rfl,b2⟩))
    go_roundg (Ds.length-(i+1))
    case measure=>omega
    case rel=>exact⟨i+1,by simp,by omega,rfl,take_one HD.out HNO.out HZ.out,HBL.out.trans (b2.mono HBL.out.size)⟩
   ·have hb:=Ov HD.out HNO.out hz
    have hz':(check.iY D != 0)=true:=by simpa using hz
    have HV:=Lib.hid (show jX Ds=check.iY D from by rw[HPP.out,hb,afc hz])
    clear hb
    go_upto_region 9 with(first |(refine wpList_load_mid rfl tFn _ rfl g (o+i*4) rfl [.int .i64 D.p,.bool D.u,D.lv,D.bv] _ HC.out Tryz.underlying40 rfl fnR ?_)|(go_at_call 41;refine(HCK.out _ HO.out).mono ?_;rintro e w2 ⟨rfl,b2⟩))
    have hP2:=(b2.block _ (aeN.1 HP.out).1).trans HP.out
    have q2:w2.cell? ⟨w.heap.size,0,none⟩=some (.slice (some ⟨g,o,none⟩) Ds.length c):=by rw[ahF _ w.heap.size 0 _ _ (0,0) hP2];rfl
    have HO2:=Lib.hid (HO.out.trans (b2.mono HO.out.size))
    have HC2:=Lib.hid (txt.jT HC.out hg b2)
    clear q0 hP2 b2
    go_wp2_with (first |(refine wpList_load_mid rfl tFn _ rfl g (o+i*4) rfl [.int .i64 D.p,.bool D.u,D.lv,D.bv] _ HC2.out Tryz.underlying40 rfl fnR ?_)|(go_at_call 41;refine(HCK.out _ HO2.out).mono ?_;rintro e w3 ⟨rfl,b3⟩))
    go_ret
    exact⟨by rw[HV.out];rfl,HO2.out.trans (b3.mono HO2.out.size)⟩
  ·obtain rfl:i=Ds.length:=by omega
   have hall:=HNO.out
   rw[afq]at hall
   have HV:=Lib.hid (show jX Ds=if lY Ds&&ou Ds then 0 else 8 from by rw[HPP.out,Ir hall,afm rfl])
   have HALL:=Lib.hid hall
   clear hall HNO
   go_wp2_with fail
   clear q0
   go_loopg [4] Ds.length (λg s4 w8=>∃i:Nat,s4=.int .i64 i/\i<=Ds.length/\g=Ds.length-i/\(∀D∈Ds.take i,D.bs.all (jP Ds)=true)/\Below w1.heap.size w1 w8)
   case atStart=>exact⟨0,rfl,afb _,rfl,(by simp),HBL.out⟩
   case round=>
    clear HBL HO HP
    obtain⟨i,rfl,hi2,rfl,hno,hbel⟩:=hrel
    have h0I2:(0:Int)<=(i:Int):=afa _
    have p0:=(hbel.block _ l1).trans HP0.out
    have q0:wr.cell? ⟨w.heap.size,0,none⟩=some (.slice A Ds.length c):=by rw[ahF _ w.heap.size 0 _ _ (0,0) p0];rfl
    have HBL:=Lib.hid hbel
    have HO:=Lib.hid (HB.out.trans (hbel.mono HB.out.size))
    have HNO:=Lib.hid hno
    have HP:=Lib.hid p0
    clear hbel hno p0
    rcases afp i Ds.length with hlt|hge2
    ·have hltI:(i:Int)<(Ds.length:Int):=by omega
     obtain⟨D,hD⟩:∃D,Ds[i]? =some D:=⟨_,aeK hlt⟩
     obtain⟨g,o,eA,hg,hc⟩:=iZ (HR.out.below HO.out) hD
     subst eA
     have hDm:=aeY hD
     have hDk:=(HOK.out D hDm).frz (HO.out.drew).block
     have hcl:=a1H (c:=c) hDk (by have:=(txt.kX (HALL.out D hDm)).b1;exact this) (Fg hDk (HALL.out D hDm)) (HR.out.below HO.out.drew) h8
     have f0:=hc 0 _ rfl
     have f1:=hc 1 _ rfl
     have f2:=hc 2 _ rfl
     have f3:=hc 3 _ rfl
     simp only[afS]at f0
     have HD:=Lib.hid hD
     have HCL:=Lib.hid hcl
     have hlw:w.heap.size<wr.heap.size:=(aeN.1 HP.out).1
     clear hc hD hDk hcl
     cases hq:D.bs.all (jP Ds)with
     |true=>
      have HQ:=Lib.hid hq
      rw[hq]at HCL
      clear hq
      go_upto_region 13 with fail
      refine bH [⟨w.heap.size,0,none⟩,⟨g,o+i*4,none⟩,⟨g,o+i*4+1,none⟩,⟨g,o+i*4+2,none⟩,⟨g,o+i*4+3,none⟩] [(0,true),(1,true),(2,true),(3,true),(4,true),(5,true),(6,false),(7,true)] (by kernel_rfl) (by kernel_rfl) (by decide) (by kernel_rfl) (λ_ _ _ _ _ h=>h) ?_
      have q0:wr.drew.cell? ⟨w.heap.size,0,none⟩=_:=q0
      have f0:wr.drew.cell? ⟨g,o+i*4,none⟩=_:=f0
      have f1:wr.drew.cell? ⟨g,o+i*4+1,none⟩=_:=f1
      have f2:wr.drew.cell? ⟨g,o+i*4+2,none⟩=_:=f2
      have f3:wr.drew.cell? ⟨g,o+i*4+3,none⟩=_:=f3
      iterate 6 (refine SeqC.take (v:=?_) rfl (by rfl) (λW hW=>?_) ?_;rotate_left;(focus(have zq:=hW.get (by simp) q0;have z0:=hW.get (by simp) f0;have z1:=hW.get (by simp) f1;have z2:=hW.get (by simp) f2;have z3:=hW.get (by simp) f3;go_simp;with_reducible rfl));simp only[Act.put,aeJ,aeP,aeO])
      refine SeqC.call (f:=?_) (args:=?_) rfl (by rfl) ?_ ?_
      rotate_left 2
      ·(go_simp;first |with_reducible rfl|(refine⟨?_,?_⟩<;>with_reducible rfl))
      refine HCL.out.mono ?_
      rintro e w2 ⟨rfl,b2⟩
      refine⟨_,rfl,Cells.nM b2 (by intro p hp;simp only[aeQ,aeZ,afj]at hp;rcases hp with rfl|rfl|rfl|rfl|rfl<;>first |exact hlw|exact hg),?_⟩
      simp only[Act.put,aeJ,aeP,aeO]
      refine SeqC.take (v:=?_) rfl (by rfl) (λW hW=>?_) ?_;rotate_left;(focus(go_simp;with_reducible rfl));simp only[Act.put,aeJ,aeP,aeO]
      refine SeqC.done ?_
      clear q0 f0 f1 f2 f3
      go_wp2_with fail
      go_roundg (Ds.length-(i+1))
      case measure=>omega
      case rel=>exact⟨i+1,by simp,by omega,rfl,take_one HD.out HNO.out HQ.out,HBL.out.trans (((ahE _ _).drew.trans b2).mono HBL.out.size)⟩
     |false=>
      have HQ:=Lib.hid (show ou Ds=false from Gq HD.out hq)
      rw[hq]at HCL
      clear hq
      go_upto_region 13 with fail
      refine bH [⟨w.heap.size,0,none⟩,⟨g,o+i*4,none⟩,⟨g,o+i*4+1,none⟩,⟨g,o+i*4+2,none⟩,⟨g,o+i*4+3,none⟩] [(0,true),(1,true),(2,true),(3,true),(4,true),(5,true),(6,false),(7,true)] (by kernel_rfl) (by kernel_rfl) (by decide) (by kernel_rfl) (λ_ _ _ _ _ h=>h) ?_
      have q0:wr.drew.cell? ⟨w.heap.size,0,none⟩=_:=q0
      have f0:wr.drew.cell? ⟨g,o+i*4,none⟩=_:=f0
      have f1:wr.drew.cell? ⟨g,o+i*4+1,none⟩=_:=f1
      have f2:wr.drew.cell? ⟨g,o+i*4+2,none⟩=_:=f2
      have f3:wr.drew.cell? ⟨g,o+i*4+3,none⟩=_:=f3
      iterate 6 (refine SeqC.take (v:=?_) rfl (by rfl) (λW hW=>?_) ?_;rotate_left;(focus(have zq:=hW.get (by simp) q0;have z0:=hW.get (by simp) f0;have z1:=hW.get (by simp) f1;have z2:=hW.get (by simp) f2;have z3:=hW.get (by simp) f3;go_simp;with_reducible rfl));simp only[Act.put,aeJ,aeP,aeO])
      refine SeqC.call (f:=?_) (args:=?_) rfl (by rfl) ?_ ?_
      rotate_left 2
      ·(go_simp;first |with_reducible rfl|(refine⟨?_,?_⟩<;>with_reducible rfl))
      refine HCL.out.mono ?_
      rintro e w2 ⟨rfl,b2⟩
      refine⟨_,rfl,Cells.nM b2 (by intro p hp;simp only[aeQ,aeZ,afj]at hp;rcases hp with rfl|rfl|rfl|rfl|rfl<;>first |exact hlw|exact hg),?_⟩
      simp only[Act.put,aeJ,aeP,aeO]
      refine SeqC.take (v:=?_) rfl (by rfl) (λW hW=>?_) ?_;rotate_left;(focus(go_simp;with_reducible rfl));simp only[Act.put,aeJ,aeP,aeO]
      refine SeqC.done ?_
      clear q0 f0 f1 f2 f3
      go_wp2_with fail
      go_ret
      exact⟨by rw[HV.out,HQ.out,ahk];rfl,HO.out.trans (((ahE _ _).drew.trans b2).mono HO.out.size)⟩
    ·obtain rfl:i=Ds.length:=by omega
     have hq:=HNO.out
     rw[afq]at hq
     have hcp:ou Ds=true:=aeV.2 hq
     have hv2:=HV.out
     rw[hcp,afg]at hv2
     obtain⟨D,hD⟩:∃D,Ds[0]? =some D:=⟨_,aeK h0⟩
     have hDm:=aeY hD
     have hgd:Ds.getD 0 noF=D:=by rw[af8,hD];rfl
     have hDk:=HOK.out D hDm
     have k:=txt.kX (HALL.out D hDm)
     have hp0:=k.p.1
     have hp8:=k.p.2
     obtain⟨hlt0,hlt1⟩:D.p<D.ls.length/\0<D.ls.length:=by
      have:=(size.xX (HALL.out D hDm)).2.1
      unfold made.kT head.ny head.guard at this
      simp only[aeI,af6]at this
      exact⟨this.1.1.2.2.2,this.1.1.1⟩
     obtain⟨Al,cl,el,hml,hrl⟩:=bT.rows hDk.locals (by decide)
     obtain⟨gl,ol,rfl,hgl,hrl⟩:=txt.kQ hrl hlt1
     obtain⟨A2,c2,eb,hmb,hrb⟩:=aZ.blks hDk
     obtain⟨pn,hpn⟩:∃pn:Nat,D.p=(pn:Int):=⟨D.p.toNat,by omega⟩
     obtain⟨g,o,eA,hg,hc⟩:=iZ (HR.out.below HO.out) hD
     subst eA
     rw[el,eb,hpn]at hc
     simp only[Nat.zero_mul,afS]at hc
     have hib:lY Ds=((D.ls.drop 1).take pn).all JY:=by unfold lY;rw[hgd,hpn];rfl
     rw[hib]at hv2
     have HV2:=Lib.hid hv2
     clear hv2
     obtain⟨wv,hwv⟩:∃wv,wv=wr.alloc (.cells #[.int .i64 pn,.bool D.u,.slice (some ⟨gl,ol,none⟩) D.ls.length cl,.slice A2 D.bs.length c2] tFn):=⟨_,rfl⟩
     have bv:Below wr.heap.size wr wv:=by rw[hwv];exact(ahE _ _).alloc (aeM _) _
     have BV:Box wv wr.heap.size tFn (.int .i64 pn) (.bool D.u) (.slice (some ⟨gl,ol,none⟩) D.ls.length cl) (.slice A2 D.bs.length c2):=by rw[hwv];exact Box.mk rfl
     have HC:=Lib.hid hc
     have HOV:=Lib.hid (HO.out.trans (bv.mono HO.out.size))
     have HBV:=Lib.hid BV
     have HKD:=Lib.hid hDk.lkd
     have HTY:=Lib.hid k.ty
     have HRL:=Lib.hid hrl
     clear hc hq hcp hgd hib hDk k el eb hrb HBL HO HNO HP bv BV hD hmb hml hrl HF HOK HR
     go_upto_region 16 with(refine wpList_load_mid rfl tFn _ rfl g o rfl [.int .i64 pn,.bool D.u,.slice (some ⟨gl,ol,none⟩) D.ls.length cl,.slice A2 D.bs.length c2] _ HC.out Tryz.underlying40 rfl fnR ?_)
     rw[<-hwv]
     clear hwv q0
     generalize wr.heap.size=Q at *
     go_wp2_with fail
     go_loopg [6] pn (λg s6 w8=>∃j:Nat,s6=.int .i64 ((j:Int)+1)/\j<=pn/\g=pn-j/\(∀t∈(D.ls.drop 1).take j,JY t=true)/\w8=wv)
     case atStart=>exact⟨0,rfl,afb _,rfl,(by simp),rfl⟩
     case round=>
      obtain⟨j,rfl,hj,rfl,hno,rfl⟩:=hrel
      have h0J:(0:Int)<=(j:Int):=afa _
      obtain⟨y0,y1,y2,y3⟩:=HBV.out.cells
      have HNO:=Lib.hid hno
      clear hno
      rcases afp j pn with hjl|hjg
      ·have hjI:(j:Int)+1<=(pn:Int):=by omega
       have hjL:(j:Int)+1<(D.ls.length:Int):=by omega
       obtain⟨t,ht⟩:∃t,D.ls[j+1]? =some t:=⟨_,aeK (by omega)⟩
       obtain⟨x,y,rfl⟩:∃x y:Int,t=[.int .u8 x,.int .u8 y]:=by
        obtain⟨v0,l0,q0,⟨x0,rfl,_⟩,k0⟩:=aN (HKD.out t (aeY ht))
        obtain⟨v1,l1,rfl,⟨x1,rfl,_⟩,k1⟩:=aN k0
        obtain rfl:=jY k1
        exact⟨x0,x1,q0⟩
       have t0:=(txt.jT (HRL.out (j+1) _ ht) hgl HOV.out) 0 _ rfl
       simp only[afS]at t0
       have hat:((D.ls.drop 1).take pn)[j]? =some [.int .u8 x,.int .u8 y]:=by rw[afQ,afm hjl,afR,ags];exact ht
       have hat1:(D.ls.drop 1)[j]? =some [.int .u8 x,.int .u8 y]:=by rw[afR,ags];exact ht
       have hit:JY [.int .u8 x,.int .u8 y]=decide (x=1):=rfl
       have HAT:=Lib.hid hat
       have HAT1:=Lib.hid hat1
       clear ht hat hat1
       by_cases hx:x=1
       ·subst hx
        go_wp2_with fail
        go_roundg (pn-(j+1))
        case measure=>omega
        case rel=>exact⟨j+1,by simp,by omega,rfl,take_one HAT1.out HNO.out hit,rfl⟩
       ·have hxn:(x != 1)=true:=by simpa using hx
        have HIT:=Lib.hid (hit.trans (af2 hx))
        clear hit
        go_wp2_with fail
        go_ret
        exact⟨by rw[HV2.out,Gq HAT.out HIT.out];rfl,HOV.out⟩
      ·obtain rfl:j=pn:=by omega
       have hle:¬((j:Int)+1<=(j:Int)):=by omega
       have HA:=Lib.hid (show((D.ls.drop 1).take j).all JY=true from aeV.2 HNO.out)
       go_wp2_with fail
       go_ret
       exact⟨by rw[HV2.out,HA.out];rfl,HOV.out⟩
