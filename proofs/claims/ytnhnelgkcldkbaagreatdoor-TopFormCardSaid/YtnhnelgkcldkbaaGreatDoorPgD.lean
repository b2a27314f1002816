/- pawnshopref08.calls and Check: what they answer at any program. program.Check: what it answers at any program. -/
import Derived.Test.YtnhnelgkcldkbaaGreatDoorPgC
set_option linter.all false
set_option maxHeartbeats 8000000
set_option maxRecDepth 100000
namespace Go.Proofs.YtnhnelgkcldkbaaGreatDoor
namespace prg
open Go.RowKit Am loan bld
theorem Gq {α:Type}{l:List α}{t:α->Bool}{i:Nat}{x:α}(h:l[i]? =some x)(ht:t x=false):l.all t=false:=by
 rw[List.all_eq_false]
 exact⟨x,aeY h,by rw[ht];decide⟩
theorem a9X {w:World}{A:Option Addr}{c X Y:Nat}{Ds:List FnD}{D:FnD}(hD:aZ w (.agg #[.int .i64 D.p,.bool D.u,D.lv,D.bv]) D)(hb24:D.bs.length<=24)(hok:∀b∈D.bs,ah b.pre 0=4->0<=ah b.pre 6)(hr:dR w A 4 (Ds.map FnD.cells))(hn:Ds.length<=8)(hX:w.cell? ⟨X,0,none⟩=some (.func (.func 93) #[] #[.pointer (some ⟨Y,0,none⟩)]))(hXl:X<w.heap.size)(hY:w.cell? ⟨Y,0,none⟩=some (.slice A Ds.length c))(hYl:Y<w.heap.size):
  Calls Tryz.prog 97 #[.agg D.cells.toArray,.pointer (some ⟨X,0,none⟩)] w (bld.Ans w (.bool (D.bs.all (jP Ds)))):=by
 obtain⟨B,d,eb,hmb,hrb⟩:=aZ.blks hD
 obtain⟨w1,hw1⟩:∃w1,w1=w.alloc (.cells #[.int .i64 D.p,.bool D.u,D.lv,D.bv] tFn):=⟨_,rfl⟩
 have b0:Below w.heap.size w w1:=by rw[hw1];exact(ahE _ _).alloc (aeM _) _
 have B0:Box w1 w.heap.size tFn (.int .i64 D.p) (.bool D.u) D.lv D.bv:=by rw[hw1];exact Box.mk rfl
 obtain⟨y0,y1,y2,y3⟩:=B0.cells
 rw[eb]at y3 hw1
 have hX1:=(b0.cell (p:=⟨X,0,none⟩) hXl).trans hX
 have HA:=Lib.hid (YH (v3B (Y:=Y)) (w:=w1) (c:=d) (f:=bU.cells) (t:=jP Ds) (xs:=D.bs) (hrb.below b0) (by omega) (λb hb=>nZ (hD.blk b hb))
  (λb hb W hW=>aae (w:=W) (((hD.frz b0.block).frz hW.block).blk b hb) ((hr.below b0).below hW) hn ((hW.cell (p:=⟨Y,0,none⟩) (afe hYl b0.size)).trans ((b0.cell (p:=⟨Y,0,none⟩) hYl).trans hY)) (afe hYl (afv b0.size hW.size)) (hok b hb)))
 have HB:=Lib.hid b0
 unfold FnD.cells
 clear hD hr hX hY hok hrb b0 B0
 generalize D.bs.all (jP Ds)=q at *
 go_enter Tryz.func97,Tryz.ntmps97
 go_upto_region 1 with fail
 rw[<-hw1]
 clear hw1
 go_wp2_with (go_at_call 98;refine HA.out.mono ?_;rintro e w2 ⟨rfl,b2⟩)
 go_ret
 exact⟨rfl,HB.out.trans (b2.mono HB.out.size)⟩
theorem a1H {w:World}{A:Option Addr}{c:Nat}{Ds:List FnD}{D:FnD}(hD:aZ w (.agg #[.int .i64 D.p,.bool D.u,D.lv,D.bv]) D)(hb24:D.bs.length<=24)(hok:∀b∈D.bs,ah b.pre 0=4->0<=ah b.pre 6)(hr:dR w A 4 (Ds.map FnD.cells))(hn:Ds.length<=8):
  Calls Tryz.prog 42 #[.agg #[.slice A Ds.length c],.agg #[.int .i64 D.p,.bool D.u,D.lv,D.bv]] w (bld.Ans w (.bool (D.bs.all (jP Ds)))):=by
 obtain⟨B0,d0,eb,hmb,hrb⟩:=aZ.blks hD
 have HOK:=Lib.hid hok
 have HBK:=Lib.hid hD.blk
 rw[eb]
 obtain⟨w1,hw1⟩:∃w1,w1=(w.alloc (.cells #[.slice A Ds.length c] tPr)).alloc (.cells #[.int .i64 D.p,.bool D.u,D.lv,.slice B0 D.bs.length d0] tFn):=⟨_,rfl⟩
 have b1:Below w.heap.size w w1:=by rw[hw1];exact((ahE _ _).alloc (aeM _) _).alloc (by simp) _
 have P1:w1.heap[w.heap.size]? =some (.cells #[.slice A Ds.length c] tPr (0,0)):=by rw[hw1];exact dA (ay rfl)
 have B1:Box w1 (w.heap.size+1) tFn (.int .i64 D.p) (.bool D.u) D.lv (.slice B0 D.bs.length d0):=by rw[hw1];exact Box.mk (by simp)
 have hl1:=B1.lt
 have HB:=Lib.hid b1
 have HP1:=Lib.hid P1
 have HB1:=Lib.hid B1
 have HR:=Lib.hid hr
 have HRB:=Lib.hid hrb
 clear hD hr hrb P1 B1 b1 eb hok
 go_enter Tryz.func42,Tryz.ntmps42
 go_upto_region 1 with fail
 rw[<-hw1]
 clear hw1
 go_wp2_with fail
 go_loopg [5] D.bs.length (λg s5 w8=>∃i:Nat,s5=.int .i64 i/\i<=D.bs.length/\g=D.bs.length-i/\(∀b∈D.bs.take i,jP Ds b=true)/\Below w1.heap.size w1 w8)
 case atStart=>exact⟨0,rfl,afb _,rfl,(by simp),ahE _ _⟩
 case round=>
  obtain⟨i,rfl,hi,rfl,hno,hbel⟩:=hrel
  have h0I:(0:Int)<=(i:Int):=afa _
  have HBL:=Lib.hid hbel
  have HO:=Lib.hid (HB.out.trans (hbel.mono HB.out.size))
  have HNO:=Lib.hid hno
  obtain⟨y0,y1,y2,y3⟩:=(HB1.out.below hbel).cells
  have hP:=(hbel.block _ (aeN.1 HP1.out).1).trans HP1.out
  have HP:=Lib.hid hP
  clear hbel hno hP
  rcases afp i D.bs.length with hlt|hge
  ·have hltI:(i:Int)<(D.bs.length:Int):=by omega
   obtain⟨b,hb⟩:∃b,D.bs[i]? =some b:=⟨_,aeK hlt⟩
   have hbm:=aeY hb
   obtain⟨gb,ob,eB,hgb,hcb⟩:=(HRB.out.below HO.out) i b.cells (by rw[aeT,hb];rfl)
   subst eB
   obtain⟨As,cs,x0,x1,x2,x3,b4,x5,x6,x7,x8,B,d,y0',y1',y2',e1,e2,e3,e4⟩:=QA (HBK.out b hbm)
   have hcall:jP Ds b=(!decide (x0=4)||(decide (x6<Ds.length)&&decide ((b.ops.length:Int)=(Ds.getD x6.toNat noF).p))):=by unfold jP;rw[e2];rfl
   have h06:x0=4->0<=x6:=by have:=HOK.out b hbm;rw[e2]at this;exact this
   have hrj:wr.rangeAt gb (ob+i*14+1) [.int .u8 x0,.int .u8 x1,.int .i64 x2,.int .i64 x3,.bool b4,.int .u8 x5,.int .i64 x6,.int .i64 x7,.int .i64 x8,.slice B b.ops.length d,.int .i64 y0',.bool y1',.int .u8 y2']:=λj u hj=>by
    have:=hcb (j+1) u (by unfold bU.cells;rw[e1,e2,e3,e4];simpa using hj)
    rw[show ob+i*14+1+j=ob+i*14+(j+1)by omega]
    exact this
   have HRJ:=Lib.hid hrj
   have HX:=Lib.hid hb
   have HCALL:=Lib.hid hcall
   clear hcb hrj hb hbm e1 e2 e3 e4 hcall y0 y1 y2
   go_upto_region 5 with(refine wpList_load_mid rfl tJm _ rfl gb (ob+i*14+1) rfl [.int .u8 x0,.int .u8 x1,.int .i64 x2,.int .i64 x3,.bool b4,.int .u8 x5,.int .i64 x6,.int .i64 x7,.int .i64 x8,.slice B b.ops.length d,.int .i64 y0',.bool y1',.int .u8 y2'] _ HRJ.out Tryz.underlying81 rfl jmR ?_)
   obtain⟨w2,hw2⟩:∃w2,w2=wr.alloc (.cells #[.int .u8 x0,.int .u8 x1,.int .i64 x2,.int .i64 x3,.bool b4,.int .u8 x5,.int .i64 x6,.int .i64 x7,.int .i64 x8,.slice B b.ops.length d,.int .i64 y0',.bool y1',.int .u8 y2'] tJm):=⟨_,rfl⟩
   have b2:Below wr.heap.size wr w2:=by rw[hw2];exact(ahE _ _).alloc (aeM _) _
   have hj:w2.heap[wr.heap.size]? =some (.cells #[.int .u8 x0,.int .u8 x1,.int .i64 x2,.int .i64 x3,.bool b4,.int .u8 x5,.int .i64 x6,.int .i64 x7,.int .i64 x8,.slice B b.ops.length d,.int .i64 y0',.bool y1',.int .u8 y2'] tJm (0,0)):=by rw[hw2];exact ay rfl
   rw[<-hw2]
   have k0:w2.cell? ⟨wr.heap.size,0,none⟩=some (.int .u8 x0):=by rw[ahF w2 _ 0 _ tJm (0,0) hj];rfl
   have k6:w2.cell? ⟨wr.heap.size,6,none⟩=some (.int .i64 x6):=by rw[ahF w2 _ 6 _ tJm (0,0) hj];rfl
   have k9:w2.cell? ⟨wr.heap.size,9,none⟩=some (.slice B b.ops.length d):=by rw[ahF w2 _ 9 _ tJm (0,0) hj];rfl
   have hlw:w.heap.size<wr.heap.size:=(aeN.1 HP.out).1
   have kY:w2.cell? ⟨w.heap.size,0,none⟩=some (.slice A Ds.length c):=(b2.cell (p:=⟨w.heap.size,0,none⟩) hlw).trans (by rw[ahF wr _ 0 _ tPr (0,0) HP.out];rfl)
   have HO2:=Lib.hid (HO.out.trans (b2.mono HO.out.size))
   have HB2:=Lib.hid (HBL.out.trans (b2.mono HBL.out.size))
   have HR2:=Lib.hid (HR.out.below HO2.out)
   clear hw2 b2 hj HR HRJ y3
   by_cases hx:x0=4
   ·subst hx
    have h06:=h06 rfl
    have hne:((4:Int)==4)=true:=rfl
    by_cases hm:x6<(Ds.length:Int)
    ·obtain⟨m,rfl⟩:∃m:Nat,x6=(m:Int):=⟨x6.toNat,by omega⟩
     have hge:decide ((m:Int)>=(Ds.length:Int))=false:=af2 (by omega)
     have hge2:¬(Ds.length:Int)<=(m:Int):=by omega
     obtain⟨E,hE⟩:∃E,Ds[m]? =some E:=⟨_,aeK (by omega)⟩
     have hgd:Ds.getD (m:Int).toNat noF=E:=by rw[af8,afO,hE];rfl
     obtain⟨g,o,eA,hg,hcd⟩:=HR2.out m E.cells (by rw[aeT,hE];rfl)
     subst eA
     have kP:=hcd 0 _ rfl
     simp only[afS]at kP
     have hcb:jP Ds b=decide ((b.ops.length:Int)=E.p):=by rw[HCALL.out,hgd,afn hm];rfl
     have HCB0:=Lib.hid hcb
     clear hcd hgd hE HR2 HCALL hcb
     by_cases hp:(b.ops.length:Int)=E.p
     ·have HCB:=Lib.hid (HCB0.out.trans (afn hp))
      have hpn:((b.ops.length:Int) != E.p)=false:=by rw[hp];exact bne_self_eq_false _
      clear HCB0
      refine bH [⟨wr.heap.size,0,none⟩,⟨wr.heap.size,6,none⟩,⟨wr.heap.size,9,none⟩,⟨w.heap.size,0,none⟩,⟨g,o+m*4,none⟩] [(0,true),(1,true),(2,true),(3,true),(4,true),(5,true),(6,true),(7,true),(8,true),(9,true),(10,true),(11,true),(12,true),(13,true),(14,true),(15,true),(16,true),(17,true),(18,true),(19,true),(20,true),(21,true),(22,true),(23,true)] (by kernel_rfl) (by kernel_rfl) (by decide) (by kernel_rfl) (λ_ _ _ _ _ h=>h) ?_
      have k0:w2.drew.cell? ⟨wr.heap.size,0,none⟩=_:=k0
      have k6:w2.drew.cell? ⟨wr.heap.size,6,none⟩=_:=k6
      have k9:w2.drew.cell? ⟨wr.heap.size,9,none⟩=_:=k9
      have kY:w2.drew.cell? ⟨w.heap.size,0,none⟩=_:=kY
      have kP:w2.drew.cell? ⟨g,o+m*4,none⟩=_:=kP
      repeat(first |(refine SeqC.take (v:=?_) rfl (by rfl) (λW hW=>?_) ?_;rotate_left;(focus(have zk0:=hW.get (by simp) k0;have zk6:=hW.get (by simp) k6;have zk9:=hW.get (by simp) k9;have zkY:=hW.get (by simp) kY;have zkP:=hW.get (by simp) kP;go_simp;with_reducible rfl));simp only[Act.put,aeJ,aeP,aeO])|(refine SeqC.skip rfl (by rfl) ?_;simp only[Act.put,aeJ,aeP,aeO]))
      refine SeqC.done ?_
      clear k0 k6 k9 kY kP
      go_wp2_with fail
      go_roundg (D.bs.length-(i+1))
      case measure=>omega
      case rel=>exact⟨i+1,by simp,by omega,rfl,take_one HX.out HNO.out HCB.out,HB2.out.drew⟩
     ·have HCB:=Lib.hid (HCB0.out.trans (af2 hp))
      have hpn:((b.ops.length:Int) != E.p)=true:=by simpa using hp
      clear HCB0
      refine bH [⟨wr.heap.size,0,none⟩,⟨wr.heap.size,6,none⟩,⟨wr.heap.size,9,none⟩,⟨w.heap.size,0,none⟩,⟨g,o+m*4,none⟩] [(0,true),(1,true),(2,true),(3,true),(4,true),(5,true),(6,true),(7,true),(8,true),(9,true),(10,true),(11,true),(12,true),(13,true),(14,true),(15,true),(16,true),(17,true),(18,true),(19,true),(20,true),(21,true),(22,true),(23,true)] (by kernel_rfl) (by kernel_rfl) (by decide) (by kernel_rfl) (λ_ _ _ _ _ h=>h) ?_
      have k0:w2.drew.cell? ⟨wr.heap.size,0,none⟩=_:=k0
      have k6:w2.drew.cell? ⟨wr.heap.size,6,none⟩=_:=k6
      have k9:w2.drew.cell? ⟨wr.heap.size,9,none⟩=_:=k9
      have kY:w2.drew.cell? ⟨w.heap.size,0,none⟩=_:=kY
      have kP:w2.drew.cell? ⟨g,o+m*4,none⟩=_:=kP
      repeat(first |(refine SeqC.take (v:=?_) rfl (by rfl) (λW hW=>?_) ?_;rotate_left;(focus(have zk0:=hW.get (by simp) k0;have zk6:=hW.get (by simp) k6;have zk9:=hW.get (by simp) k9;have zkY:=hW.get (by simp) kY;have zkP:=hW.get (by simp) kP;go_simp;with_reducible rfl));simp only[Act.put,aeJ,aeP,aeO])|(refine SeqC.skip rfl (by rfl) ?_;simp only[Act.put,aeJ,aeP,aeO]))
      refine SeqC.done ?_
      clear k0 k6 k9 kY kP
      go_wp2_with fail
      go_ret
      exact⟨by rw[Gq HX.out HCB.out];rfl,HO2.out.drew⟩
    ·have hge:decide (x6>=(Ds.length:Int))=true:=afn (by omega)
     have hge2:(Ds.length:Int)<=x6:=by omega
     have HCB:=Lib.hid (show jP Ds b=false from by rw[HCALL.out,af2 hm];rfl)
     clear HR2 HCALL
     refine bH [⟨wr.heap.size,0,none⟩,⟨wr.heap.size,6,none⟩,⟨wr.heap.size,9,none⟩,⟨w.heap.size,0,none⟩] [(0,true),(1,true),(2,true),(3,true),(4,true),(5,true),(6,true),(7,true),(8,true),(9,true),(10,true),(11,true),(12,true),(13,true),(14,true),(15,true),(16,true),(17,true),(18,true),(19,true),(20,true),(21,true),(22,true),(23,true)] (by kernel_rfl) (by kernel_rfl) (by decide) (by kernel_rfl) (λ_ _ _ _ _ h=>h) ?_
     have k0:w2.drew.cell? ⟨wr.heap.size,0,none⟩=_:=k0
     have k6:w2.drew.cell? ⟨wr.heap.size,6,none⟩=_:=k6
     have k9:w2.drew.cell? ⟨wr.heap.size,9,none⟩=_:=k9
     have kY:w2.drew.cell? ⟨w.heap.size,0,none⟩=_:=kY
     repeat(first |(refine SeqC.take (v:=?_) rfl (by rfl) (λW hW=>?_) ?_;rotate_left;(focus(have zk0:=hW.get (by simp) k0;have zk6:=hW.get (by simp) k6;have zk9:=hW.get (by simp) k9;have zkY:=hW.get (by simp) kY;go_simp;with_reducible rfl));simp only[Act.put,aeJ,aeP,aeO])|(refine SeqC.skip rfl (by rfl) ?_;simp only[Act.put,aeJ,aeP,aeO]))
     refine SeqC.done ?_
     clear k0 k6 k9 kY
     go_wp2_with fail
     go_ret
     exact⟨by rw[Gq HX.out HCB.out];rfl,HO2.out.drew⟩
   ·have hne:(x0==4)=false:=by rw[ah1];exact hx
    have HCB:=Lib.hid (show jP Ds b=true from by rw[HCALL.out,af2 hx];rfl)
    clear HR2 HCALL
    refine bH [⟨wr.heap.size,0,none⟩,⟨wr.heap.size,6,none⟩,⟨wr.heap.size,9,none⟩,⟨w.heap.size,0,none⟩] [(0,true),(1,true),(2,true),(3,true),(4,true),(5,true),(6,true),(7,true),(8,true),(9,true),(10,true),(11,true),(12,true),(13,true),(14,true),(15,true),(16,true),(17,true),(18,true),(19,true),(20,true),(21,true),(22,true),(23,true)] (by kernel_rfl) (by kernel_rfl) (by decide) (by kernel_rfl) (λ_ _ _ _ _ h=>h) ?_
    have k0:w2.drew.cell? ⟨wr.heap.size,0,none⟩=_:=k0
    have k6:w2.drew.cell? ⟨wr.heap.size,6,none⟩=_:=k6
    have k9:w2.drew.cell? ⟨wr.heap.size,9,none⟩=_:=k9
    have kY:w2.drew.cell? ⟨w.heap.size,0,none⟩=_:=kY
    repeat(first |(refine SeqC.take (v:=?_) rfl (by rfl) (λW hW=>?_) ?_;rotate_left;(focus(have zk0:=hW.get (by simp) k0;have zk6:=hW.get (by simp) k6;have zk9:=hW.get (by simp) k9;have zkY:=hW.get (by simp) kY;go_simp;with_reducible rfl));simp only[Act.put,aeJ,aeP,aeO])|(refine SeqC.skip rfl (by rfl) ?_;simp only[Act.put,aeJ,aeP,aeO]))
    refine SeqC.done ?_
    clear k0 k6 k9 kY
    go_wp2_with fail
    go_roundg (D.bs.length-(i+1))
    case measure=>omega
    case rel=>exact⟨i+1,by simp,by omega,rfl,take_one HX.out HNO.out HCB.out,HB2.out.drew⟩
  ·obtain rfl:i=D.bs.length:=by omega
   have hall:=HNO.out
   rw[afq]at hall
   have HA:=Lib.hid (show D.bs.all (jP Ds)=true from aeV.2 hall)
   clear hall
   go_wp2_with fail
   go_ret
   exact⟨by rw[HA.out];rfl,HO.out⟩
def aaR (x:Int)(W:World):Ending->World->Prop:=bld.Ans W (.int .i64 x)
theorem ZH {w:World}{v fv:Value}{Ds:List FnD}(h:dS w v fv Ds)(hn:8<Ds.length):Calls Tryz.prog 43 #[v] w (aaR 4 w):=by
 obtain⟨A,c,e,_,hm,hr⟩:=h.rows
 rw[e]
 have hd:decide ((Ds.length:Int)>8)=true:=afn (by omega)
 have b0:Below w.heap.size w (w.alloc (.cells #[.slice A Ds.length c] tPr)):=(ahE _ _).alloc (aeM _) _
 have HB:=Lib.hid b0
 clear h hr e b0
 go_enter Tryz.func43,Tryz.ntmps43
 go_wp2_with fail
 go_ret
 exact⟨rfl,HB.out⟩
theorem ZB {w:World}{v fv:Value}{Ds:List FnD}(h:dS w v fv Ds)(hn:Ds.length=0):Calls Tryz.prog 43 #[v] w (aaR 8 w):=by
 obtain⟨A,c,e,_,hm,hr⟩:=h.rows
 rw[e,hn]
 have b0:Below w.heap.size w (w.alloc (.cells #[.slice A 0 c] tPr)):=(ahE _ _).alloc (aeM _) _
 have HB:=Lib.hid b0
 clear h hr e b0
 go_enter Tryz.func43,Tryz.ntmps43
 go_wp2_with fail
 go_ret
 exact⟨rfl,HB.out⟩
theorem QJ {w:World}{g o n:Nat}{ls:List (List Value)}(h:dR w (some ⟨g,o,none⟩) 2 ls):dR w (some ⟨g,o+1*2,none⟩) 2 ((ls.drop 1).take n):=λi el hi=>by
 have hi2:ls[1+i]? =some el:=by
  rw[afQ]at hi
  split at hi
  ·rw[<-afR];exact hi
  ·cases hi
 obtain⟨g',o',e,hg,hr⟩:=h _ _ hi2
 cases e
 refine⟨_,_,rfl,hg,?_⟩
 rw[show o+1*2+i*2=o+(1+i)*2 by omega]
 exact hr
theorem aaS {w:World}{v fv:Value}{Ds:List FnD}(h:dS w v fv Ds)(h0:0<Ds.length)(h8:Ds.length<=8):Calls Tryz.prog 43 #[v] w (aaR (jX Ds) w):=by
 obtain⟨A,c,e,_,hm,hr⟩:=h.rows
 have hP:jX Ds=if sF Ds=0 then(if lY Ds&&ou Ds then 0 else 8)else sF Ds:=by unfold jX;rw[afc (by omega),afc (by omega)]
 have HPP:=Lib.hid hP
 have hd8:decide ((Ds.length:Int)>8)=false:=af2 (by omega)
 have h8n:¬(8:Int)<(Ds.length:Int):=by omega
 have hne0:((Ds.length:Int)==0)=false:=by rw[ah1];omega
 have HF:=Lib.hid (λ(D:FnD) (hD:D∈Ds) (W:World) (hW:Below w.heap.size w W)=>txt.a8R ((h.fn D hD).frz hW.block) W (ahE _ _))
 have HOK:=Lib.hid h.fn
 rw[e]
 obtain⟨w1,hw1⟩:∃w1,w1=w.alloc (.cells #[.slice A Ds.length c] tPr):=⟨_,rfl⟩
 have b0:Below w.heap.size w w1:=by rw[hw1];exact(ahE _ _).alloc (aeM _) _
 have P0:w1.heap[w.heap.size]? =some (.cells #[.slice A Ds.length c] tPr (0,0)):=by rw[hw1];exact ay rfl
 have p0:w1.cell? ⟨w.heap.size,0,none⟩=some (.slice A Ds.length c):=by rw[ahF _ w.heap.size 0 _ _ (0,0) P0];rfl
 have l1:w.heap.size<w1.heap.size:=by rw[hw1];simp
 have HB:=Lib.hid b0
 have HR:=Lib.hid hr
 have HP0:=Lib.hid P0
 clear h hr e b0 hP P0
 go_enter Tryz.func43,Tryz.ntmps43
 go_upto_region 1 with fail
 rw[<-hw1]
 clear hw1
 go_wp2_with fail
 clear p0
 go_loopg [20] Ds.length (λg s20 w8=>∃i:Nat,s20=.int .i64 i/\i<=Ds.length/\g=Ds.length-i/\(∀D∈Ds.take i,check.iY D=0)/\Below w1.heap.size w1 w8)
 case atStart=>exact⟨0,rfl,afb _,rfl,(by simp),ahE _ _⟩
 case round=>
  obtain⟨i,rfl,hi,rfl,hno,hbel⟩:=hrel
  have h0I:(0:Int)<=(i:Int):=afa _
  have p0:=(hbel.block _ l1).trans HP0.out
  have HBL:=Lib.hid hbel
  have HO:=Lib.hid (HB.out.trans (hbel.mono HB.out.size))
  have HNO:=Lib.hid hno
  have HP:=Lib.hid p0
  clear hbel hno p0
  rcases afp i Ds.length with hlt|hge
  ·have hltI:(i:Int)<(Ds.length:Int):=by omega
   obtain⟨D,hD⟩:∃D,Ds[i]? =some D:=⟨_,aeK hlt⟩
   obtain⟨g,o,eA,hg,hc⟩:=iZ (HR.out.below HO.out) hD
   subst eA
   obtain⟨A1,c1,q1,A2,c2,q2⟩:=lK (HOK.out D (aeY hD))
   have hbx:Below wr.heap.size wr (wr.alloc (.cells #[.int .i64 D.p,.bool D.u,D.lv,D.bv] tFn)):=(ahE _ _).alloc (aeM _) _
   have hX:=HO.out.trans (hbx.mono HO.out.size)
   have hBX:=HBL.out.trans (hbx.mono HBL.out.size)
   have hck:=HF.out D (aeY hD) _ hX
   rw[q1,q2]at hc hX hBX hck
   have HC:=Lib.hid hc
   have HD:=Lib.hid hD
   have HX:=Lib.hid hX
   have HBX:=Lib.hid hBX
   have HCK:=Lib.hid hck
   clear hc hD hbx q1 q2 hX hBX hck
   by_cases hz:check.iY D=0
   ·have HZ:=Lib.hid hz
    rw[hz]at HCK
    clear hz
    go_wp2_with (first |(refine wpList_load_mid rfl tFn _ rfl g (o+i*4) rfl [.int .i64 D.p,.bool D.u,.slice A1 D.ls.length c1,.slice A2 D.bs.length c2] _ HC.out Tryz.underlying40 rfl fnR ?_)|(go_at_call 47;refine HCK.out.mono ?_;rintro e w2 ⟨rfl,b2⟩))
    go_roundg (Ds.length-(i+1))
    case measure=>omega
    case rel=>exact⟨i+1,by simp,by omega,rfl,take_one HD.out HNO.out HZ.out,HBX.out.trans (b2.mono HBX.out.size)⟩
   ·have hb:=Ov HD.out HNO.out hz
    have hz':(check.iY D != 0)=true:=by simpa using hz
    have HV:=Lib.hid (show jX Ds=check.iY D from by rw[HPP.out,hb,afc hz])
    clear hb
    go_wp2_with (first |(refine wpList_load_mid rfl tFn _ rfl g (o+i*4) rfl [.int .i64 D.p,.bool D.u,.slice A1 D.ls.length c1,.slice A2 D.bs.length c2] _ HC.out Tryz.underlying40 rfl fnR ?_)|(go_at_call 47;refine HCK.out.mono ?_;rintro e w2 ⟨rfl,b2⟩))
    go_ret
    exact⟨by rw[HV.out];rfl,HX.out.trans (b2.mono HX.out.size)⟩
  ·obtain rfl:i=Ds.length:=by omega
   have hall:=HNO.out
   rw[afq]at hall
   have HV:=Lib.hid (show jX Ds=if lY Ds&&ou Ds then 0 else 8 from by rw[HPP.out,Ir hall,afm rfl])
   obtain⟨D,hD⟩:∃D,Ds[0]? =some D:=⟨_,aeK h0⟩
   have hDm:=aeY hD
   have hgd:Ds.getD 0 noF=D:=by rw[af8,hD];rfl
   have hDk:=HOK.out D hDm
   have k:=txt.kX (hall D hDm)
   have hp0:=k.p.1
   have hp8:=k.p.2
   obtain⟨hlt0,hlt1⟩:D.p<D.ls.length/\0<D.ls.length:=by
    have:=(size.xX (hall D hDm)).2.1
    unfold made.kT head.ny head.guard at this
    simp only[aeI,af6]at this
    exact⟨this.1.1.2.2.2,this.1.1.1⟩
   obtain⟨Al,cl,el,hml,hrl⟩:=bT.rows hDk.locals (by decide)
   obtain⟨gl,ol,rfl,hgl,_⟩:=txt.kQ hrl hlt1
   obtain⟨hcl,hcm⟩:=hDk.locals.cap (λe=>by rw[e]at hlt1;exact absurd hlt1 (by decide)) _ _ _ el
   obtain⟨A2,c2,eb,hmb,hrb⟩:=aZ.blks hDk
   obtain⟨pn,hpn⟩:∃pn:Nat,D.p=(pn:Int):=⟨D.p.toNat,by omega⟩
   obtain⟨g,o,eA,hg,hc⟩:=iZ (HR.out.below HO.out) hD
   subst eA
   rw[el,eb,hpn]at hc
   simp only[Nat.zero_mul,afS]at hc
   have hib:lY Ds=((D.ls.drop 1).take pn).all JY:=by unfold lY;rw[hgd,hpn];rfl
   have hv2:=HV.out
   rw[hib]at hv2
   have HV2:=Lib.hid hv2
   clear hv2
   have hlx:((D.ls.drop 1).take pn).length=pn:=by rw[afu,agE];omega
   -- the variable of the closure, then that of the function
   obtain⟨wv,hwv⟩:∃wv,wv=(wr.alloc (.cells #[.func (.func 93) #[] #[.pointer (some ⟨w.heap.size,0,none⟩)]] 161)).alloc (.cells #[.int .i64 pn,.bool D.u,.slice (some ⟨gl,ol,none⟩) D.ls.length cl,.slice A2 D.bs.length c2] tFn):=⟨_,rfl⟩
   have bv:Below wr.heap.size wr wv:=by rw[hwv];exact((ahE _ _).alloc (aeM _) _).alloc (by simp) _
   have cv:wv.cell? ⟨wr.heap.size,0,none⟩=some (.func (.func 93) #[] #[.pointer (some ⟨w.heap.size,0,none⟩)]):=by rw[hwv,ahF _ wr.heap.size 0 _ _ (0,0) (dA (ay rfl))];rfl
   have lv:wr.heap.size<wv.heap.size:=by rw[hwv];simp;omega
   have hwr:w.heap.size<wr.heap.size:=(aeN.1 HP.out).1
   have pv:wv.cell? ⟨w.heap.size,0,none⟩=some (.slice (some ⟨g,o,none⟩) Ds.length c):=(bv.cell (p:=⟨w.heap.size,0,none⟩) hwr).trans (by rw[ahF wr _ 0 _ tPr (0,0) HP.out];rfl)
   have bw:=HO.out.trans (bv.mono HO.out.size)
   have HT:=Lib.hid (λ(c':Nat)=>YH v3T (w:=wv) (A:=if cl=1 then some ⟨gl,ol,none⟩else some ⟨gl,ol+2,none⟩) (c:=c') (f:=λt=>t) (t:=JY) (xs:=(D.ls.drop 1).take pn) (by rw[List.map_id'];split;(· next h1=>(have hp00:pn=0:=by omega);subst hp00;intro i el hi;simp at hi);exact(QJ hrl).below bw) (by omega)
    (λt ht=>(hDk.lkd t (agB (afW ht))).len.symm) (λt ht W _=>UN (hDk.lkd t (agB (afW ht))) (k.ty t (agB (afW ht))) W))
   rw[hlx]at HT
   have hF3:=λ(W:World) (hW:Below w.heap.size w W) (hW2:Below wv.heap.size wv W) (cb:Nat)=>YH (v3F (Y:=wr.heap.size)) (w:=W) (A:=some ⟨g,o,none⟩) (c:=cb) (f:=FnD.cells) (t:=λD=>D.bs.all (jP Ds)) (xs:=Ds) (HR.out.below hW) (by omega)
    (λE hE=>rfl)
    (λE hE W2 hW3=>a9X (c:=c) ((HOK.out E hE).frz (hW.trans (hW3.mono hW.size)).block) (txt.kX (hall E hE)).b1 (Fg (HOK.out E hE) (hall E hE)) (HR.out.below (hW.trans (hW3.mono hW.size))) h8 ((hW3.cell (p:=⟨wr.heap.size,0,none⟩) (afe lv hW2.size)).trans ((hW2.cell (p:=⟨wr.heap.size,0,none⟩) lv).trans cv)) (afe lv (afv hW2.size hW3.size)) ((hW3.cell (p:=⟨w.heap.size,0,none⟩) (afe (ah5 hwr lv) hW2.size)).trans ((hW2.cell (p:=⟨w.heap.size,0,none⟩) (ah5 hwr lv)).trans pv)) (afe (ah5 hwr lv) (afv hW2.size hW3.size)))
   have BV:Box wv (wr.heap.size+1) tFn (.int .i64 pn) (.bool D.u) (.slice (some ⟨gl,ol,none⟩) D.ls.length cl) (.slice A2 D.bs.length c2):=by rw[hwv];exact Box.mk (by simp)
   have hpl:(1:Int)+pn<=cl:=by omega
   have hpl2:(0:Int)<=(pn:Int):=by omega
   have hll:(0:Int)<(Ds.length:Int):=by omega
   have HBW:=Lib.hid bw
   have HC:=Lib.hid hc
   have HF3:=Lib.hid hF3
   have HPV:=Lib.hid pv
   have q0:wr.cell? ⟨w.heap.size,0,none⟩=some (.slice (some ⟨g,o,none⟩) Ds.length c):=by rw[ahF wr _ 0 _ tPr (0,0) HP.out];rfl
   have q1:(wr.alloc (.cells #[.func (.func 93) #[] #[.pointer (some ⟨w.heap.size,0,none⟩)]] 161)).cell? ⟨w.heap.size,0,none⟩=some (.slice (some ⟨g,o,none⟩) Ds.length c):=Ed q0
   obtain⟨y0,y1,y2,y3⟩:=BV.cells
   have HWV:=Lib.hid hwv
   clear hc bw hF3 pv cv BV bv hrl hrb hall hDk k hD hgd hib el eb hmb hml HOK HF HNO HO HBL hwv
   have hstf:∀(fn:Fn) (f1 c1:Array Value) (a:Addr) (m:Mode) (W:World),(store a (.func fn f1 c1) m).run Tryz.prog W=stored Tryz.prog W a (.func fn f1 c1) m:=λ_ _ _ _ _ _=>run_store _ _ _ _ _ rfl
   go_upto_region 14 with(refine wpList_load_mid rfl tFn _ rfl g o rfl [.int .i64 pn,.bool D.u,.slice (some ⟨gl,ol,none⟩) D.ls.length cl,.slice A2 D.bs.length c2] _ (V8 HC.out) Tryz.underlying40 rfl fnR ?_)
   rw[<-HWV.out]
   clear q0 q1
   generalize ((D.ls.drop 1).take pn).all JY=ib at *
   have HLW:=Lib.hid (ah5 hwr lv)
   by_cases hc1:cl=1
   all_goals(
    first |(rw[afm hc1]at HT;subst hc1)|rw[afc hc1]at HT
    cases ib with
    |false=>
     go_wp2_with (go_at_call 94;refine(HT.out _).mono ?_;rintro e wx ⟨rfl,bx⟩)
     go_ret
     exact⟨by rw[HV2.out];rfl,HBW.out.trans (bx.mono HBW.out.size)⟩
    |true=>
     go_upto_region 15 with(go_at_call 94;refine(HT.out _).mono ?_;rintro e wx ⟨rfl,bx⟩)
     have q2:=(bx.cell (p:=⟨w.heap.size,0,none⟩) HLW.out).trans HPV.out
     have HX:=Lib.hid (HBW.out.trans (bx.mono HBW.out.size))
     have hfc:=HF3.out wx HX.out bx c
     have hcp:(Ds.all λD=>D.bs.all (jP Ds))=ou Ds:=rfl
     rw[hcp]at hfc
     clear y0 y1 y2 y3 hcp bx HT HF3
     cases hq:ou Ds with
     |false=>
      rw[hq]at hfc
      have HFC:=Lib.hid hfc
      have HV3:=Lib.hid (show jX Ds=8 from by rw[HV2.out,hq];rfl)
      clear hq hfc HV2
      go_wp2_with (go_at_call 96;refine HFC.out.mono ?_;rintro e wy ⟨rfl,by1⟩)
      go_ret
      exact⟨by rw[HV3.out];rfl,HX.out.trans (by1.mono HX.out.size)⟩
     |true=>
      rw[hq]at hfc
      have HFC:=Lib.hid hfc
      have HV3:=Lib.hid (show jX Ds=0 from by rw[HV2.out,hq];rfl)
      clear hq hfc HV2
      go_wp2_with (go_at_call 96;refine HFC.out.mono ?_;rintro e wy ⟨rfl,by1⟩)
      go_ret
      exact⟨by rw[HV3.out];rfl,HX.out.trans (by1.mono HX.out.size)⟩)
