/- Texts of statements. -/
import Derived.Test.YtnhnelgkcldkbaaGreatDoorTextFn
set_option linter.all false
set_option maxHeartbeats 8000000
set_option maxRecDepth 100000
namespace Go.Proofs.YtnhnelgkcldkbaaGreatDoor
namespace Am
open Go.RowKit
def tsP:List Pl:=[(1,(2,3)),(9,(10,11)),(14,(15,16)),(17,(18,19)),(22,(23,24))]
noncomputable def rU:Lf:=Lf.Iu [(true,kSt)] tsP.length
def acE:Sp:=.cut 25 1 .leaf .leaf
def abb:Sp:=.cut 25 0 .leaf acE
def adw:Sp:=.cut 5 1 (.cut 6 1 (.conj [(20,0),(21,0),(22,0),(23,0),(24,0)] abb .leaf) .leaf) .leaf
def a9L:Sp:=.conj [(17,0),(18,0),(19,0)] adw .leaf
def abC:Sp:=.conj [(12,0),(13,0),(14,0),(15,0),(16,0)] a9L .leaf
def aci:Sp:=.cut 8 0 .leaf (.cut 8 1 (.cut 9 0 .leaf (.cut 9 16 (.cut 11 3 abC .leaf) .leaf)) .leaf)
def ad5:Sp:=.conj [(17,0),(18,0),(19,0)] (.cut 5 1 .leaf (.cut 5 7 (.cut 6 1 (.conj [(20,0),(21,0),(22,0),(23,0),(24,0)] (.cut 25 0 .leaf (.cut 25 1 (.cut 5 4 (.cut 5 2 .leaf (.cut 5 3 .leaf .leaf)) (.cut 5 5 .leaf (.cut 5 6 .leaf .leaf))) .leaf)) .leaf) .leaf) .leaf)) .leaf
def abt:Sp:=.cut 13 0 .leaf (.cut 13 1 (.cut 14 0 .leaf (.cut 14 16 (.cut 16 3 ad5 .leaf) .leaf)) .leaf)
def acJ:Sp:=.cut 12 1 .leaf (.cut 12 2 (.conj [(14,0),(15,0),(16,0)] ad5 .leaf) (.cut 12 3 abt (.cut 12 4 abt .leaf)))
def ad2:Sp:=.cut 8 0 .leaf (.cut 8 1 (.cut 9 0 .leaf (.cut 9 16 (.cut 11 3 acJ .leaf) .leaf)) .leaf)
def a8F:Sp:=.cut 13 0 .leaf (.cut 13 1 (.cut 14 0 .leaf (.cut 14 16 (.cut 16 3 a9L .leaf) .leaf)) .leaf)
def a9g:Sp:=.cut 12 1 .leaf (.cut 12 2 (.conj [(14,0),(15,0),(16,0)] a9L .leaf) (.cut 12 3 a8F (.cut 12 4 a8F .leaf)))
def a8G:Sp:=.cut 8 0 .leaf (.cut 8 1 (.cut 9 0 .leaf (.cut 9 16 (.cut 11 3 a9g .leaf) .leaf)) .leaf)
def a9o:Sp:=.cut 21 0 .leaf (.cut 21 1 (.cut 22 0 .leaf (.cut 22 16 (.cut 24 3 abb .leaf) .leaf)) .leaf)
def a9D:Sp:=.conj [(1,0),(2,0),(3,0)] (.conj [(4,0),(5,0),(6,0),(7,0),(8,0),(9,0),(10,0),(11,0),(12,0),(13,0),(14,0),(15,0),(16,0),(17,0),(18,0),(19,0)] (.cut 20 1 .leaf (.cut 20 2 (.conj [(22,0),(23,0),(24,0)] abb .leaf) (.cut 20 3 a9o (.cut 20 4 a9o .leaf)))) .leaf) .leaf
def qK:Sp:=.cut 0 1 .leaf (.cut 0 2 (.cut 1 0 .leaf (.cut 1 16 (.cut 3 3 (.cut 4 1 .leaf (.cut 4 2 (.cut 7 1 .leaf (.cut 7 2 (.conj [(9,0),(10,0),(11,0)] abC .leaf) (.cut 7 3 aci (.cut 7 4 aci .leaf)))) (.cut 4 3 (.cut 7 1 .leaf (.cut 7 2 (.conj [(9,0),(10,0),(11,0)] acJ .leaf) (.cut 7 3 ad2 (.cut 7 4 ad2 .leaf)))) (.cut 4 4 (.cut 7 1 .leaf (.cut 7 2 (.conj [(9,0),(10,0),(11,0)] a9g .leaf) (.cut 7 3 a8G (.cut 7 4 a8G .leaf)))) (.cut 4 5 (.conj [(7,0),(8,0),(9,0),(10,0),(11,0)] (.conj [(12,0),(13,0),(14,0),(15,0),(16,0)] (.cut 17 0 .leaf (.cut 17 16 (.cut 19 3 (.cut 5 1 (.cut 6 1 .leaf (.cut 6 4 (.conj [(20,0),(21,0),(22,0),(23,0),(24,0)] (.cut 25 0 .leaf (.cut 25 1 (.cut 6 2 .leaf (.cut 6 3 .leaf .leaf)) .leaf)) .leaf) .leaf)) .leaf) .leaf) .leaf)) .leaf) .leaf) (.cut 4 6 (.conj [(7,0),(8,0),(9,0),(10,0),(11,0)] (.conj [(12,0),(13,0),(14,0),(15,0),(16,0)] (.cut 17 0 .leaf (.cut 17 16 (.cut 19 3 adw .leaf) .leaf)) .leaf) .leaf) .leaf)))))) .leaf) .leaf)) (.cut 0 3 a9D (.cut 0 4 (.conj [(1,0),(2,0),(3,0)] (.conj [(4,0),(5,0),(6,0),(7,0),(8,0),(9,0),(10,0),(11,0),(12,0),(13,0),(14,0),(15,0),(16,0),(17,0),(18,0),(19,0)] (.conj [(20,0),(21,0),(22,0),(23,0),(24,0)] (.cut 25 0 .leaf (.cut 25 16 (.cut 25 10 (.cut 25 5 (.cut 25 2 acE (.cut 25 3 .leaf (.cut 25 4 .leaf .leaf))) (.cut 25 7 (.cut 25 6 .leaf .leaf) (.cut 25 8 .leaf (.cut 25 9 .leaf .leaf)))) (.cut 25 13 (.cut 25 11 .leaf (.cut 25 12 .leaf .leaf)) (.cut 25 14 .leaf (.cut 25 15 .leaf .leaf)))) .leaf)) .leaf) .leaf) .leaf) (.cut 0 5 a9D .leaf))))
noncomputable def dB (L:Lf):Bool:=EG dK kSt mS2 (stX true kSt tsP L (tX kSt L)) L (aaG 60 kSt tsP L)
theorem Zi:ckB dB qK rU 20 0=true:=by kernel_rfl
theorem ZG:ckB dB qK rU 20 1=true:=by kernel_rfl
theorem Y8:ckB dB qK rU 20 2=true:=by kernel_rfl
theorem ZR:ckB dB qK rU 20 3=true:=by kernel_rfl
theorem a0a:ckB dB qK rU 20 4=true:=by kernel_rfl
theorem Zg:ckB dB qK rU 20 5=true:=by kernel_rfl
theorem YD:ckB dB qK rU 20 6=true:=by kernel_rfl
theorem ZO:ckB dB qK rU 20 7=true:=by kernel_rfl
theorem YT:ckB dB qK rU 20 8=true:=by kernel_rfl
theorem Zm:ckB dB qK rU 20 9=true:=by kernel_rfl
theorem Vg:ckB dB qK rU 20 10=true:=by kernel_rfl
theorem Ud:ckB dB qK rU 20 11=true:=by kernel_rfl
theorem TP:ckB dB qK rU 20 12=true:=by kernel_rfl
theorem Va:ckB dB qK rU 20 13=true:=by kernel_rfl
theorem TK:ckB dB qK rU 20 14=true:=by kernel_rfl
theorem Uc:ckB dB qK rU 20 15=true:=by kernel_rfl
theorem Vl:ckB dB qK rU 20 16=true:=by kernel_rfl
theorem TJ:ckB dB qK rU 20 17=true:=by kernel_rfl
theorem UL:ckB dB qK rU 20 18=true:=by kernel_rfl
theorem Uz:ckB dB qK rU 20 19=true:=by kernel_rfl
theorem U4:ckB dB qK rU 20 20=true:=by kernel_rfl
theorem TI:ckB dB qK rU 20 21=true:=by kernel_rfl
theorem a1f:(qK.leaves rU).all dB=true:=mD _ 20 22 _ (aff (by kernel_rfl)) λi hi=>match i,hi with
 |0,_=>Zi
 |1,_=>ZG
 |2,_=>Y8
 |3,_=>ZR
 |4,_=>a0a
 |5,_=>Zg
 |6,_=>YD
 |7,_=>ZO
 |8,_=>YT
 |9,_=>Zm
 |10,_=>Vg
 |11,_=>Ud
 |12,_=>TP
 |13,_=>Va
 |14,_=>TK
 |15,_=>Uc
 |16,_=>Vl
 |17,_=>TJ
 |18,_=>UL
 |19,_=>Uz
 |20,_=>U4
 |21,_=>TI
 |i+22,h=>absurd h (by omega)
theorem UW:Texts Tryz.prog iq 60 kSt dK (λus=>stT (a0d us)) vS2:=ZF OO (pls:=tsP) (λL xs=>stX true kSt tsP L xs) (λb0 L r xs us l hL d e ha h=>@a9Z b0 r L kSt tsP xs us hL d e ha _ l h) (by kernel_rfl) (sp:=qK) a1f
end Am
namespace txt
open Go.RowKit Am loan bld
theorem WR (w:World):Bld tB tU w.heap.size [] (w.alloc (.cells #[.pointer none,.slice none 0 0] tB)):=Lib.IsBuilderF.of (Lib.fresh_isBuilder tB tU w)
def a6p (l:List UInt8)(x:Int)(W:World)(e:Ending)(W':World):Prop:=e=.returned (.tuple #[.string ⟨l.toArray⟩,.int .i64 x])/\Below W.heap.size W W'
def a4h (f:FuncId)(w:World)(v:Value)(x:Int):Prop:=∀w1,Below w.heap.size w w1->Calls Tryz.prog f #[v] w1 (bld.Ans w1 (.int .i64 x))
end txt
namespace Am
open Go.RowKit
end Am
namespace txt
open Go.RowKit Am loan bld
theorem uK {w:World}{b:bU}(h:jV w b):jd w (.agg (b.pre++b.a::b.post).toArray) b.pre b.a b.post b.ops:=
 ⟨rfl,h.rJ,h.mZ,⟨h.opl.sl,h.opl.most,h.opl.at_,λi el he=>h.okd el (aeY he),h.opl.cap⟩⟩
theorem lD {w0 w:World}(k:iq w0)(h:Below w0.heap.size w0 w):iq w:=k.all λb hb=>h.block b (afe hb k.size)
theorem Oh {w:World}{v:Value}{D:FnD}(h:aZ w v D)(hc:check.iY D=0):Lim D:=by
 have k:=kX hc
 exact⟨k.l0,k.b0,k.l1,k.b1,k.s,λb hb=>abo (uK (h.blk b hb)) (k.jm b hb)⟩
theorem bZ {w:World}{v:Value}{D:FnD}(h:aZ w v D)(kt:iq w)(hc:check.iY D=0):Cons w D:=by
 have k:=kX hc
 refine⟨λn h0 h1 W hW=>JG h0 h1 (lD kt hW),λt ht W hW=>aaI (h.lkd t ht) (k.ty t ht) W,λb hb s hs W hW=>?_,λb hb W hW=>?_⟩
 ·exact UW _ ((h.blk b hb).skd s hs) (k.st b hb s hs) W (lD kt hW)
 ·exact ab3 W _ _ _ _ _ (lD kt hW) (uK ((h.frz hW.block).blk b hb)) (k.jm b hb)
theorem a8R {w:World}{v:Value}{D:FnD}(h:aZ w v D):a4h 47 w v (check.iY D):=λw1 hb=>check.uT (h.frz hb.block)
theorem adl {w:World}{v:Value}{D:FnD}(h:aZ w v D):a4h 41 w v (check.iY D):=λw1 hb=>refC.Us (h.frz hb.block)
abbrev tPt:TypeId:=49
def abI (x y:Int)(W:World)(e:Ending)(W':World):Prop:=e=.returned (.tuple #[.int .i64 x,.int .i64 y])/\Below W.heap.size W W'
theorem Xr {w:World}{v:Value}{D:FnD}(hF:aZ w v D)(hL:Lim D)(hC:a4h 47 w v 0){pb pi:Nat}(h1:pb<D.bs.length)(hy:pi<=iV D.bs pb):Calls Tryz.prog 15 #[v,.agg #[.int .i64 (pb:Nat),.int .i64 (pi:Nat)]] w (abI ((D.ls.length+2+pi+aQ D.bs pb+pb:Nat):Int) 0 w):=by
 obtain⟨A,c,eb,hmb,hrb⟩:=aZ.blks hF
 obtain⟨Al,cl,el,hml,hrl⟩:=bT.rows hF.locals (by decide)
 have hcap:D.bs.length<=c:=(hF.blocks.cap (by intro h;have:=hL.b0;rw[List.map_eq_nil_iff]at h;rw[h]at this;simp at this) _ _ _ (by rw[eb])).1
 obtain⟨gb,ob,rfl,hgb,hrb⟩:=kQ hrb (by rw[af4];exact hL.b0)
 have hnl:=hL.l
 have hnb:=hL.b
 unfold a4h at hC
 rw[hF.eq,eb]at hC |-
 have HC:=Lib.hid hC
 have HF:=Lib.hid hF
 have HL:=Lib.hid hL
 have HRB:=Lib.hid hrb
 rw[el]at HC |-
 clear hC hF hL hrb eb el
 obtain⟨w1,hw1⟩:∃w1,w1=(w.alloc (.cells #[.int .i64 D.p,.bool D.u,.slice Al D.ls.length cl,.slice (some ⟨gb,ob,none⟩) D.bs.length c] tFn)).alloc (.cells #[.int .i64 (pb:Nat),.int .i64 (pi:Nat)] tPt):=⟨_,rfl⟩
 have b1:Below w.heap.size w w1:=by rw[hw1];exact((ahE _ _).alloc (aeM _) _).alloc (by simp) _
 have B1:Box w1 w.heap.size tFn (.int .i64 D.p) (.bool D.u) (.slice Al D.ls.length cl) (.slice (some ⟨gb,ob,none⟩) D.bs.length c):=by rw[hw1];exact(Box.mk rfl).more
 have P1:w1.heap[w.heap.size+1]? =some (.cells #[.int .i64 (pb:Nat),.int .i64 (pi:Nat)] tPt (0,0)):=by rw[hw1];exact ay (by simp)
 go_enter Tryz.func15,Tryz.ntmps15
 go_upto_region 4 with(rw[<-hw1];go_at_call 47;refine(HC.out _ b1).mono ?_;rintro e wd ⟨rfl,b2⟩)
 obtain⟨y0,y1,y2,y3⟩:=(B1.below b2).cells
 have P2:=(b2.block _ (aeN.1 P1).1).trans P1
 have p0:wd.cell? ⟨w.heap.size+1,0,none⟩=some (.int .i64 (pb:Nat)):=by rw[ahF wd _ 0 _ tPt (0,0) P2];rfl
 have p1:wd.cell? ⟨w.heap.size+1,1,none⟩=some (.int .i64 (pi:Nat)):=by rw[ahF wd _ 1 _ tPt (0,0) P2];rfl
 have HB2:=Lib.hid (b1.trans (b2.mono b1.size))
 have HP2:=Lib.hid P2
 have HX2:=Lib.hid (B1.below b2)
 clear hw1 b1 B1 P1 b2 P2
 obtain⟨x,hx⟩:∃x,D.bs[pb]? =some x:=⟨_,aeK h1⟩
 have hxm:=aeY hx
 obtain⟨As,cs,es,hms,_⟩:=jV.KD (HF.out.blk x hxm)
 have h24:=HL.out.s x hxm
 have c0:wd.cell? ⟨gb,ob+pb*14,none⟩=some (.slice As x.st.length cs):=by
  have:=jT (HRB.out pb x.cells (by rw[aeT,hx];rfl)) hgb HB2.out 0 x.s rfl
  rw[es]at this
  exact this
 have HX:=Lib.hid hx
 clear hx hxm es
 have h0I:(0:Int)<=(pb:Int):=afa _
 have hltI:(pb:Int)<(D.bs.length:Int):=by omega
 have hd0:¬(pb:Int)<0:=by omega
 have hd:decide ((pb:Int)<0)=false:=af2 hd0
 have hd1:decide ((pb:Int)>=(D.bs.length:Int))=false:=af2 (by omega)
 have hd3:decide (D.bs.length<=pb)=false:=af2 (by omega)
 have hd4:¬D.bs.length<=pb:=by omega
 rw[BP HX.out]at hy
 have hp0:(0:Int)<=(pi:Int):=afa _
 have hyI:(pi:Int)<=(x.st.length:Int):=by omega
 have hy0:¬(pi:Int)<0:=by omega
 have hd2:decide ((pi:Int)<0)=false:=af2 hy0
 have hd5:decide ((pi:Int)>(x.st.length:Int))=false:=af2 (by omega)
 have hd6:decide (x.st.length<pi)=false:=af2 (by omega)
 have hd7:¬x.st.length<pi:=by omega
 refine bH [⟨w.heap.size+1,0,none⟩,⟨w.heap.size+1,1,none⟩,⟨w.heap.size,3,none⟩,⟨gb,ob+pb*14,none⟩] [(0,true),(1,true),(2,true),(3,true),(4,true),(5,true),(6,true),(7,true),(8,true),(9,true),(10,true),(11,true),(12,true),(13,true),(14,true),(15,true),(16,true),(17,true),(18,true),(19,true),(20,true),(21,true),(22,true),(23,true),(24,true),(25,true),(26,true),(27,true),(28,true)] (by kernel_rfl) (by kernel_rfl) (by decide) (by kernel_rfl) (λ_ _ _ _ _ h=>h) ?_
 have p0:wd.drew.cell? ⟨w.heap.size+1,0,none⟩=_:=p0
 have p1:wd.drew.cell? ⟨w.heap.size+1,1,none⟩=_:=p1
 have y3:wd.drew.cell? ⟨w.heap.size,3,none⟩=_:=y3
 have c0:wd.drew.cell? ⟨gb,ob+pb*14,none⟩=_:=c0
 repeat(first |(refine SeqC.take (v:=?_) rfl (by rfl) (λW hW=>?_) ?_;rotate_left;(focus(have zp0:=hW.get (by simp) p0;have zp1:=hW.get (by simp) p1;have zy3:=hW.get (by simp) y3;have zc0:=hW.get (by simp) c0;go_simp;with_reducible rfl));simp only[Act.put,aeJ,aeP,aeO])|(refine SeqC.skip rfl (by rfl) ?_;simp only[Act.put,aeJ,aeP,aeO]))
 refine SeqC.done ?_
 clear hd hd0 hd1 hd2 hd3 hd4 hd5 hd6 hd7 c0
 have HB3:=Lib.hid HB2.out.drew
 have HX3:=Lib.hid (show Box wd.drew w.heap.size tFn (.int .i64 D.p) (.bool D.u) (.slice Al D.ls.length cl) (.slice (some ⟨gb,ob,none⟩) D.bs.length c)from HX2.out)
 generalize wd.drew=wf at *
 obtain⟨y0,y1,y2,y3⟩:=HX3.out.cells
 have hpc:(pb:Int)<=(c:Int):=by omega
 go_wp2_with fail
 clear y0 y1 y2 y3
 go_loopg [7,57] pb (λg s7 s57 w8=>∃(j:Nat) (t:Int),s57=.int .i64 j/\s7=.int .i64 t/\j<=pb/\g=pb-j/\t=(D.ls.length:Int)+2+(pi:Int)+((aQ D.bs j+j:Nat):Int)/\Below wf.heap.size wf w8)
 case atStart=>exact⟨0,_,rfl,rfl,afb _,rfl,by simp[aQ],ahE _ _⟩
 case round=>
  obtain⟨j,t,rfl,rfl,hj,rfl,ht,hbel⟩:=hrel
  have h0J:(0:Int)<=(j:Int):=afa _
  have hst:=D9 (FZ HL.out.s) j
  have ht0:0<=t:=by omega
  have ht1:t<=10000:=by omega
  have HT:=Lib.hid ht
  have HBL:=Lib.hid hbel
  clear ht hbel
  rcases afp j pb with hlt|hge
  ·have hltJ:(j:Int)<(pb:Int):=by omega
   obtain⟨z,hz⟩:∃z,D.bs[j]? =some z:=⟨_,aeK (by omega)⟩
   have hzm:=aeY hz
   have hbk:=HF.out.blk z hzm
   obtain⟨Az,cz,ez,hmz,_⟩:=jV.KD hbk
   have hz24:=HL.out.s z hzm
   have HCB:=Lib.hid (jT (HRB.out j z.cells (by rw[aeT,hz];rfl)) hgb (HB3.out.trans (HBL.out.mono HB3.out.size)))
   have hbl14:=nZ hbk
   have hb1:=xH hbk
   have HLB:=Lib.hid (BP hz)
   have HEZ:=Lib.hid ez
   have hsto:(storeCells ⟨wr.heap.size,0,none⟩ z.cells).run Tryz.prog (wr.alloc (.cells #[.slice none 0 0,.int .u8 0,.int .u8 0,.int .i64 0,.int .i64 0,.bool false,.int .u8 0,.int .i64 0,.int .i64 0,.int .i64 0,.slice none 0 0,.int .i64 0,.bool false,.int .u8 0] 99))=.ok () (wr.alloc (.cells z.cells.toArray 99)):=kK rfl (by rw[hbl14];rfl) hb1
   clear hz hzm hbk ez
   go_upto_region 10 with(refine wpList_load_mid rfl tBk _ rfl gb (ob+j*14) rfl z.cells _ HCB.out Tryz.underlying99 rfl (by rw[hbl14];exact bR) ?_)
   have q0:(wr.alloc (.cells z.cells.toArray tBk)).cell? ⟨wr.heap.size,0,none⟩=some (.slice Az z.st.length cz):=by rw[ahF _ wr.heap.size 0 _ tBk (0,0) (ay rfl),<-HEZ.out];rfl
   have HBZ:=Lib.hid (HBL.out.alloc HBL.out.size (.cells z.cells.toArray tBk))
   clear hsto
   generalize wr.heap.size=H at *
   generalize wr.alloc (.cells z.cells.toArray tBk)=wz at *
   go_wp2_with fail
   go_roundg (pb-(j+1))
   case measure=>omega
   case rel=>
    have h1:=HT.out
    have h2:aQ D.bs (j+1)=aQ D.bs j+(iV D.bs j+1):=rfl
    have h3:=HLB.out
    exact⟨j+1,_,by simp,rfl,by omega,rfl,by omega,HBZ.out⟩
  ·obtain rfl:j=pb:=by omega
   go_wp2_with fail
   go_ret2
   have h1:=HT.out
   exact⟨by rw[show((D.ls.length+2+pi+aQ D.bs j+j:Nat):Int)=t from by omega];rfl,HB3.out.trans (HBL.out.mono HB3.out.size)⟩
