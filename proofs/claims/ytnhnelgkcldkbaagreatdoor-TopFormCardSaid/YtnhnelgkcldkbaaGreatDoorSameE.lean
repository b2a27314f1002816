/- The references' Same, of lists of operands, jumps, functions and programs that say the same: true. -/
import Derived.Test.YtnhnelgkcldkbaaGreatDoorPtLast
set_option linter.all false
set_option maxHeartbeats 16000000
set_option maxRecDepth 100000
open List renaming all_toArray → aia
namespace Go.Proofs.YtnhnelgkcldkbaaGreatDoor
namespace prg
open Go.RowKit Am loan bld
open txt (OZ CX bR sR jR uK Lim)
abbrev Yes (w:World):Ending->World->Prop:=bld.Ans w (.bool true)
theorem oQ {P:Program}{o:Oper}{a:Act}{W:World}(ty:TypeId)(x:Operand)(ho:o.op=.load ty x)(b off:Nat)(hx:a.eval x=.pointer (some ⟨b,off,none⟩))(cs:List Value)(d:TypeDesc)(hc:W.rangeAt b off cs)(hu:P.underlying ty=some d)(hd:d.isRow=true)(hi:(P.info? ty).map (·.size)=some cs.length):
  (execOp a.eval o).run P W=.ok (.value (.agg cs.toArray)) W:=by
 unfold execOp
 simp only[ho,hx,Instr.loadAt,Instr.sureAddr,ahJ,ahL,ahH,run_loadVar_mid W b off ty cs d hc hu hd hi]
theorem OA {P:Program}{o:Oper}{a:Act}{W:World}(t r:TypeId)(x y:Operand){v:Array Value}(ho:o.op=.binOp .neq t x y r)(hx:a.eval x=.agg v)(hy:a.eval y=.agg v)(hg:P.eqGuardType P.depth t=false)(hv:(binOp .neq t (.agg v) (.agg v)).run P W=.ok (.bool false) W):(execOp a.eval o).run P W=.ok (.value (.bool false)) W:=by
 have he:(eqGuard .neq t x y (.agg v) (.agg v)).run P W=.ok () W:=by unfold eqGuard;simp[go_sem,hg]
 unfold execOp
 simp only[ho,hx,hy,ahJ,he,hv,ahH,ahL]
theorem a2k {el:List Value}(h:au Kd.ok zk el)(W:World):(binOp .neq 63 (.agg el.toArray) (.agg el.toArray)).run Tryz.prog W=.ok (.bool false) W:=by
 unfold zk at h
 iterate 26 (obtain⟨_,_,rfl,k,h'⟩:=aN h;replace h:=h';clear h';first |(obtain⟨_,rfl,_⟩:=k)|(obtain⟨_,rfl⟩:=k))
 obtain rfl:=jY h
 clear h
 go_simp
theorem wpList_want {P:Program}{ops:Array Oper}{Q:Exit->Act->World->Prop}{o:Oper}{rest:List Oper}{a:Act}{w:World}(hw:Region.wanted o (yielded ops a.tmps)=true)(h:o.wp P a w (wpList P ops Q rest) Q):wpList P ops Q (o::rest) a w:=by
 unfold wpList
 rw[afm hw]
 exact .inl h
section
variable {P:Program} {ops:Array Oper} {Q:Exit->Act->World->Prop} {B:Nat}
def nx (l:Array Bool):Nat:=(l.toList.takeWhile λb=>b).length
theorem AnyE.next {fuel:Nat}{o:Oper}{listed:Array Bool}{a:Act}{w:World}{v:Value}(hs:Region.noSelect ops=true)(ho:ops.toList[nx listed]? =some o)(hf:Region.free .any ops listed (nx listed)=true)(hr:(Region.ready .any ops listed).contains (nx listed)=true)
  (hQ:∀(d:Tmp) (v:Value) c a w,Q (.panic c) (a.put (some d) v) w->Q (.panic c) a w) (hw:Region.wanted o (yielded ops a.tmps)=true) (hrun:∀W,Below B w W->(execOp a.eval o).run P W=.ok (.value v) W)
  (h:AnyE P ops Q B fuel (listed.setIfInBounds (nx listed) true) (a.put o.dst v) w):AnyE P ops Q B (fuel+1) listed a w:=AnyE.take hs ho hf hr hQ hw hrun h
end
def um (g o n:Nat):List Addr:=(List.range n).map λj=>⟨g,o+j,none⟩
theorem Cells.rng {L:List Addr}{w W:World}{g o n:Nat}{cs:List Value}(hW:Cells L w W)(hL:∀p∈um g o n,p∈L)(h:w.rangeAt g o cs)(hl:cs.length=n):W.rangeAt g o cs:=λj u hj=>
 (hW _ (hL _ (afo.2 ⟨j,afs.2 (by rw[<-hl];exact(aeU.1 hj).1),rfl⟩))).trans (h j u hj)
theorem a8h {l:List Value}(h:au Kd.ok opK l):∃a b c d e,l=[.int .u8 a,.int .i64 b,.int .i64 c,.bool d,.int .u8 e]:=by
 obtain⟨_,_,rfl,⟨a,rfl,_⟩,h0⟩:=aN h
 obtain⟨_,_,rfl,⟨b,rfl,_⟩,h1⟩:=aN h0
 obtain⟨_,_,rfl,⟨c,rfl,_⟩,h2⟩:=aN h1
 obtain⟨_,_,rfl,⟨d,rfl⟩,h3⟩:=aN h2
 obtain⟨_,_,rfl,⟨e,rfl,_⟩,h4⟩:=aN h3
 obtain rfl:=jY h4
 exact⟨a,b,c,d,e,rfl⟩
theorem adR {w:World}{A B:Option Addr}{c d:Nat}{els:List (List Value)}(h1:dR w A 5 els)(h2:dR w B 5 els)(hk:∀o∈els,au Kd.ok opK o)(hn:els.length<=100):Calls Tryz.prog 172 #[.slice A els.length c,.slice B els.length d] w (Yes w):=by
 have H1:=Lib.hid h1
 have H2:=Lib.hid h2
 have HK:=Lib.hid hk
 clear h1 h2 hk
 go_enter Tryz.func172,Tryz.ntmps172
 go_wp2_with fail
 go_loopg [5] els.length (λg s5 w8=>∃i:Nat,s5=.int .i64 i/\i<=els.length/\g=els.length-i/\Below w.heap.size w w8)
 case atStart=>exact⟨0,rfl,afb _,rfl,ahE _ _⟩
 case round=>
  obtain⟨i,rfl,hi,rfl,hbel⟩:=hrel
  have h0I:(0:Int)<=(i:Int):=afa _
  have HB:=Lib.hid hbel
  clear hbel
  rcases afp i els.length with hlt|hge
  ·have hltI:(i:Int)<(els.length:Int):=by omega
   obtain⟨el,hel⟩:∃el,els[i]? =some el:=⟨_,aeK hlt⟩
   obtain⟨g,o,ea,_,hr⟩:=(H1.out.below HB.out) i el hel
   obtain⟨g',o',eb,_,hr'⟩:=(H2.out.below HB.out) i el hel
   subst ea eb
   have h5:=HK.out el (aeY hel)
   clear hel
   obtain⟨a,b,c,d,e,rfl⟩:=a8h h5
   clear h5
   go_upto_region 6 with fail
   refine bH (um g (o+i*5) 5++um g' (o'+i*5) 5) [(0,true),(1,true),(2,true),(3,true),(4,true),(5,true),(6,true),(7,true),(8,true)] (by kernel_rfl) (by kernel_rfl) (by decide) (by kernel_rfl) (λ_ _ _ _ _ h=>h) ?_
   have HR:=Lib.hid hr
   have HS:=Lib.hid hr'
   clear hr hr'
   iterate 9 ((first
    |refine SeqC.take rfl (by rfl) (λW hW=>oQ 59 _ rfl g (o+i*5) rfl _ _ (Cells.rng (n:=5) hW (λ_ h=>List.mem_append_left _ h) HR.out rfl) Tryz.underlying59 rfl (by kernel_rfl)) ?_
    |refine SeqC.take rfl (by rfl) (λW hW=>oQ 59 _ rfl g' (o'+i*5) rfl _ _ (Cells.rng (n:=5) hW (λ_ h=>List.mem_append_right _ h) HS.out rfl) Tryz.underlying59 rfl (by kernel_rfl)) ?_
    |(refine SeqC.take (v:=?_) rfl (by rfl) (λW hW=>?_) ?_;rotate_left;(focus(go_simp;with_reducible rfl))));simp only[Act.put,aeJ,aeP,aeO])
   refine SeqC.done ?_
   go_wp2_with fail
   go_roundg (els.length-(i+1))
   case measure=>omega
   case rel=>exact⟨i+1,by simp,by omega,rfl,HB.out.drew⟩
  ·obtain rfl:i=els.length:=by omega
   go_wp2_with fail
   go_ret
   exact⟨rfl,HB.out⟩
theorem adJ {w:World}{x z:bU}(hz:jV w z)(hx:jV w x)(e1:z.pre=x.pre)(e2:z.post=x.post)(e3:z.ops=x.ops)(hn:x.ops.length<=100):Calls Tryz.prog 116 #[.agg (z.pre++z.a::z.post).toArray,.agg (x.pre++x.a::x.post).toArray] w (Yes w):=by
 have hl:=hz.opl
 rw[e3]at hl
 obtain⟨A,c,ea,_,r1⟩:=bT.rows hl (by decide)
 obtain⟨B,d,eb,_,r2⟩:=bT.rows hx.opl (by decide)
 obtain⟨K,a0,a1,a2,a3,a4,f,n,e,ep⟩:=SA hx.rJ
 obtain⟨l,q,g,eq⟩:=MS hx.mZ
 rw[e1,e2,ep,eq,ea,eb]
 have HC:=Lib.hid (λ(W:World) (hW:Below w.heap.size w W)=>adR (c:=c) (d:=d) (r1.below hW) (r2.below hW) hx.okd hn)
 clear hl r1 r2 hx hz e1 e2 e3 ep eq ea eb
 generalize x.ops.length=m at *
 go_enter Tryz.func116,Tryz.ntmps116
 go_wp2_with (go_at_call 172;refine(HC.out _ (((ahE _ w).alloc (aeM _) _).alloc (by simp) _)).mono ?_;rintro e w9 ⟨rfl,b9⟩)
 go_ret
 exact⟨rfl,(((ahE _ w).alloc (aeM _) _).alloc (by simp) _).trans (b9.mono (by simp;omega))⟩
theorem aey {w:World}{v v':Value}{D D':FnD}(h:aZ w v D)(h':aZ w v' D')(hc:D'.core=D.core)(hl:Lim D):Calls Tryz.prog 58 #[v',v] w (Yes w):=by
 obtain⟨e1,e2,e3,e4⟩:=OZ hc
 have e5:=CX e4
 have hLL:=h'.locals
 rw[e3]at hLL
 obtain⟨Al,cl,el,_,hrl⟩:=bT.rows h.locals (by decide)
 obtain⟨Bl,dl,el',_,hrl'⟩:=bT.rows hLL (by decide)
 obtain⟨A,c,eb,_,hrb⟩:=aZ.blks h
 obtain⟨B,d,eb',_,hrb'⟩:=aZ.blks h'
 have hnl:=hl.l
 have hnb:=hl.b
 rw[h'.eq,h.eq,e1,e2,el,el',eb,eb',e5]
 have HF:=Lib.hid h
 have HG:=Lib.hid h'
 have HL:=Lib.hid hl
 have HRL:=Lib.hid hrl
 have HRM:=Lib.hid hrl'
 have HRB:=Lib.hid hrb
 have HRC:=Lib.hid hrb'
 have HE4:=Lib.hid e4
 clear h h' hl hrl hrl' hrb hrb' e4 hLL hc el el' eb eb' e1 e2 e3 e5
 obtain⟨w1,hw1⟩:∃w1,w1=(w.alloc (.cells #[.int .i64 D.p,.bool D.u,.slice Bl D.ls.length dl,.slice B D.bs.length d] tFn)).alloc (.cells #[.int .i64 D.p,.bool D.u,.slice Al D.ls.length cl,.slice A D.bs.length c] tFn):=⟨_,rfl⟩
 have HB1:=Lib.hid (show Below w.heap.size w w1 from by rw[hw1];exact((ahE _ _).alloc (aeM _) _).alloc (by simp) _)
 have HX:=Lib.hid (show Box w1 w.heap.size tFn (.int .i64 D.p) (.bool D.u) (.slice Bl D.ls.length dl) (.slice B D.bs.length d)from by rw[hw1];exact(Box.mk rfl).more)
 have HY:=Lib.hid (show Box w1 (w.heap.size+1) tFn (.int .i64 D.p) (.bool D.u) (.slice Al D.ls.length cl) (.slice A D.bs.length c)from by rw[hw1];exact Box.mk (by simp))
 have hly:=HY.out.lt
 obtain⟨y0,y1,y2,y3⟩:=HX.out.cells
 obtain⟨z0,z1,z2,z3⟩:=HY.out.cells
 go_enter Tryz.func58,Tryz.ntmps58
 go_upto_region 1 with fail
 rw[<-hw1]
 clear hw1
 go_upto_region 3 with fail
 go_wp2_with fail
 clear y0 y1 y2 y3 z0 z1 z2 z3
 go_loopg [5] D.ls.length (λg s5 w8=>∃i:Nat,s5=.int .i64 i/\i<=D.ls.length/\g=D.ls.length-i/\Below w1.heap.size w1 w8)
 case atStart=>exact⟨0,rfl,afb _,rfl,ahE _ _⟩
 case round=>
  obtain⟨i,rfl,hi,rfl,hbel⟩:=hrel
  have h0I:(0:Int)<=(i:Int):=afa _
  have HBL:=Lib.hid hbel
  have HO:=Lib.hid (HB1.out.trans (hbel.mono HB1.out.size))
  obtain⟨y0,y1,y2,y3⟩:=(HX.out.below hbel).cells
  obtain⟨z0,z1,z2,z3⟩:=(HY.out.below hbel).cells
  clear hbel
  rcases afp i D.ls.length with hlt|hge
  ·have hltI:(i:Int)<(D.ls.length:Int):=by omega
   obtain⟨t,ht⟩:∃t,D.ls[i]? =some t:=⟨_,aeK hlt⟩
   have hkt:=HF.out.lkd t (aeY ht)
   obtain⟨ga,oa,ea,_,hra⟩:=(HRM.out.below HO.out) i _ ht
   obtain⟨gc,oc,ec,_,hrc⟩:=(HRL.out.below HO.out) i _ ht
   subst ea ec
   obtain⟨_,_,rfl,⟨k,rfl,_⟩,h1⟩:=aN hkt
   obtain⟨_,_,rfl,⟨m,rfl,_⟩,h2⟩:=aN h1
   obtain rfl:=jY h2
   have HA:=Lib.hid hra
   have HC:=Lib.hid hrc
   clear hra hrc ht h1 h2 hkt y0 y1 y3 z0 z1 z3
   go_upto_region 6 with fail
   refine bH (⟨w.heap.size,2,none⟩::⟨w.heap.size+1,2,none⟩::(um ga (oa+i*2) 2++um gc (oc+i*2) 2)) [(0,true),(1,true),(2,true),(3,true),(4,true),(5,true),(6,true),(7,true),(8,true),(9,true),(10,true)] (by kernel_rfl) (by kernel_rfl) (by decide) (by kernel_rfl) (λ_ _ _ _ _ h=>h) ?_
   have y2:wr.drew.cell? ⟨w.heap.size,2,none⟩=_:=y2
   have z2:wr.drew.cell? ⟨w.heap.size+1,2,none⟩=_:=z2
   iterate 11 ((first
    |refine SeqC.take rfl (by rfl) (λW hW=>oQ 88 _ rfl ga (oa+i*2) rfl _ _ (Cells.rng (n:=2) hW (by intro p hp;simp[hp]) HA.out rfl) Tryz.underlying88 rfl (by kernel_rfl)) ?_
    |refine SeqC.take rfl (by rfl) (λW hW=>oQ 88 _ rfl gc (oc+i*2) rfl _ _ (Cells.rng (n:=2) hW (by intro p hp;simp[hp]) HC.out rfl) Tryz.underlying88 rfl (by kernel_rfl)) ?_
    |(refine SeqC.take (v:=?_) rfl (by rfl) (λW hW=>?_) ?_;rotate_left;(focus(have q0:=hW.get (by simp) y2;have q1:=hW.get (by simp) z2;go_simp;with_reducible rfl))));simp only[Act.put,aeJ,aeP,aeO])
   refine SeqC.done ?_
   go_wp2_with fail
   go_roundg (D.ls.length-(i+1))
   case measure=>omega
   case rel=>exact⟨i+1,by simp,by omega,rfl,HBL.out.drew⟩
  ·obtain rfl:i=D.ls.length:=by omega
   go_wp2_with fail
   clear y0 y1 y2 y3 z0 z1 z2 z3
   go_loopg [6] D.bs.length (λg s6 w8=>∃i:Nat,s6=.int .i64 i/\i<=D.bs.length/\g=D.bs.length-i/\Below w1.heap.size w1 w8)
   case atStart=>exact⟨0,rfl,afb _,rfl,HBL.out⟩
   case round=>
    clear HBL HO
    obtain⟨i,rfl,hi2,rfl,hbel⟩:=hrel
    have h0I2:(0:Int)<=(i:Int):=afa _
    have HBL:=Lib.hid hbel
    have HO:=Lib.hid (HB1.out.trans (hbel.mono HB1.out.size))
    obtain⟨y0,y1,y2,y3⟩:=(HX.out.below hbel).cells
    obtain⟨z0,z1,z2,z3⟩:=(HY.out.below hbel).cells
    have hwr:=hbel.size
    clear hbel
    rcases afp i D.bs.length with hlt|hge2
    ·have hltI:(i:Int)<(D.bs.length:Int):=by omega
     obtain⟨x,hx⟩:∃x,D.bs[i]? =some x:=⟨_,aeK hlt⟩
     obtain⟨z,hz⟩:∃z,D'.bs[i]? =some z:=⟨_,aeK (by rw[CX HE4.out];exact hlt)⟩
     have hzx:z.core=x.core:=by
      have hi:=congrArg (λl=>l[i]?) HE4.out
      simp only[aeT,hx,hz]at hi
      exact afE hi
     unfold bU.core at hzx
     injection hzx with _ f1 _ f2 f3 f4
     have hxb:=HF.out.blk x (aeY hx)
     have hzb:=HG.out.blk z (aeY hz)
     obtain⟨ga,oa,ea,hga,hra⟩:=(HRC.out.below HO.out) i z.cells (by rw[aeT,hz];rfl)
     obtain⟨gc,oc,ec,hgc,hrc⟩:=(HRB.out.below HO.out) i x.cells (by rw[aeT,hx];rfl)
     subst ea ec
     obtain⟨As,cs,es,_,hrs⟩:=jV.KD hxb
     obtain⟨Zs,ds,ez,_,hrz⟩:=jV.KD hzb
     rw[f3]at ez hrz
     have lx:=nZ hxb
     have lz:=nZ hzb
     have HOX:=Lib.hid (xH hxb)
     have HOZ:=Lib.hid (xH hzb)
     have hst:=HL.out.s x (aeY hx)
     have HSJ:=Lib.hid (λ(W:World) (hW:Below w.heap.size w W)=>adJ (w:=W) ⟨hzb.sts.frz hW.block,hzb.skd,hzb.rJ,hzb.opl.frz hW.block,hzb.okd,hzb.mZ⟩ ⟨hxb.sts.frz hW.block,hxb.skd,hxb.rJ,hxb.opl.frz hW.block,hxb.okd,hxb.mZ⟩ f1 f2 f4 (by have:=HL.out.o x (aeY hx);omega))
     have HSK:=Lib.hid hxb.skd
     have HES:=Lib.hid es
     have HEZ:=Lib.hid ez
     have HRS:=Lib.hid hrs
     have HRZ:=Lib.hid hrz
     have HRA:=Lib.hid hra
     have HRX:=Lib.hid hrc
     clear hx hz hxb hzb f1 f2 f3 f4 es ez hrs hrz hra hrc y0 y1 y2 z0 z1 z2
     go_upto_region 11 with fail
     go_cut [7,8]from 58 to 107 (λs7 s8 wx=>∃P Q:Nat,s7=.pointer (some ⟨P,0,none⟩)/\s8=.pointer (some ⟨Q,0,none⟩)/\wx.heap[P]? =some (.cells z.cells.toArray tBk (0,0))/\wx.heap[Q]? =some (.cells x.cells.toArray tBk (0,0))/\Below wr.heap.size wr wx)
     case first=>
      refine Pq wr.heap.size (by kernel_rfl) ?_
      have HQ0:=Lib.hid (λW (hW:Below wr.heap.size wr.drew W)=>(hW.cell (p:=⟨w.heap.size,3,none⟩) (by show w.heap.size<wr.heap.size;omega)).trans y3)
      have HQ1:=Lib.hid (λW (hW:Below wr.heap.size wr.drew W)=>(hW.cell (p:=⟨w.heap.size+1,3,none⟩) (by show w.heap.size+1<wr.heap.size;omega)).trans z3)
      have HQA:=Lib.hid (λW (hW:Below wr.heap.size wr.drew W)=>(show W.rangeAt ga (oa+i*14) z.cells from λj u hj=>(hW.cell (p:=⟨ga,oa+i*14+j,none⟩) hga).trans (HRA.out j u hj)))
      have HQX:=Lib.hid (λW (hW:Below wr.heap.size wr.drew W)=>(show W.rangeAt gc (oc+i*14) x.cells from λj u hj=>(hW.cell (p:=⟨gc,oc+i*14+j,none⟩) hgc).trans (HRX.out j u hj)))
      have hbd:Below wr.heap.size wr wr.drew:=(ahE _ _).drew
      have ha1:z.cells.toArray.all (·.oneCell')=true:=by rw[aia];exact aeV.2 HOZ.out
      have hx1:x.cells.toArray.all (·.oneCell')=true:=by rw[aia];exact aeV.2 HOX.out
      have hwd:wr.heap.size<=wr.drew.heap.size:=aeM _
      clear y3 z3
      iterate 10 ((first
       |refine AnyE.next (by kernel_rfl) rfl (by kernel_rfl) (by kernel_rfl) (λ_ _ _ _ _ h=>h) (by rfl) (λW hW=>oQ 99 _ rfl ga (oa+i*14) rfl z.cells _ (HQA.out W hW) Tryz.underlying99 rfl (by rw[lz];exact bR)) ?_
       |refine AnyE.next (by kernel_rfl) rfl (by kernel_rfl) (by kernel_rfl) (λ_ _ _ _ _ h=>h) (by rfl) (λW hW=>oQ 99 _ rfl gc (oc+i*14) rfl x.cells _ (HQX.out W hW) Tryz.underlying99 rfl (by rw[lx];exact bR)) ?_
       |(refine AnyE.next (v:=?_) (by kernel_rfl) rfl (by kernel_rfl) (by kernel_rfl) (λ_ _ _ _ _ h=>h) (by rfl) (λW hW=>?_) ?_;rotate_left;(focus(have q0:=HQ0.out W hW;have q1:=HQ1.out W hW;go_simp;with_reducible rfl))));simp only[Act.put,aeJ,aeP,aeO])
      generalize wr.drew=wd at *
      refine AnyE.all (rs:=[10,11]) (by kernel_rfl) rfl (agt.2 ⟨Gm (by rfl) (by rfl) (λH=>.pointer (some ⟨H,0,none⟩)) #[.slice none 0 0,.int .u8 0,.int .u8 0,.int .i64 0,.int .i64 0,.bool false,.int .u8 0,.int .i64 0,.int .i64 0,.int .i64 0,.slice none 0 0,.int .i64 0,.bool false,.int .u8 0] tBk (by go_simp) hwd λP wn eP hH kN bN sN=>?_,agt.2 ⟨Gm (by rfl) (by rfl) (λH=>.pointer (some ⟨H,0,none⟩)) #[.slice none 0 0,.int .u8 0,.int .u8 0,.int .i64 0,.int .i64 0,.bool false,.int .u8 0,.int .i64 0,.int .i64 0,.int .i64 0,.slice none 0 0,.int .i64 0,.bool false,.int .u8 0] tBk (by go_simp) hwd λQ wn eQ hH kN bN sN=>?_,by simp⟩⟩)
      all_goals simp only[Act.put,aeJ,aeP,aeO]
      all_goals(first
       |(have hq:=eP;clear hq;refine AnyE.all (rs:=[11]) (by kernel_rfl) rfl (agt.2 ⟨Gm (by rfl) (by rfl) (λH=>.pointer (some ⟨H,0,none⟩)) #[.slice none 0 0,.int .u8 0,.int .u8 0,.int .i64 0,.int .i64 0,.bool false,.int .u8 0,.int .i64 0,.int .i64 0,.int .i64 0,.slice none 0 0,.int .i64 0,.bool false,.int .u8 0] tBk (by go_simp) (by omega) λQ wm eQ hQ kN2 bN2 sN2=>?_,by simp⟩);have hP:=kN2 _ _ (by simp) hH)
       |(refine AnyE.all (rs:=[10]) (by kernel_rfl) rfl (agt.2 ⟨Gm (by rfl) (by rfl) (λH=>.pointer (some ⟨H,0,none⟩)) #[.slice none 0 0,.int .u8 0,.int .u8 0,.int .i64 0,.int .i64 0,.bool false,.int .u8 0,.int .i64 0,.int .i64 0,.int .i64 0,.slice none 0 0,.int .i64 0,.bool false,.int .u8 0] tBk (by go_simp) (by omega) λP wm eP hP kN2 bN2 sN2=>?_,by simp⟩);have hQ:=kN2 _ _ (by simp) hH))
      all_goals
       simp only[Act.put,aeJ,aeP,aeO]
       have hPQ:P≠Q:=by omega
       refine AnyE.all (rs:=[12]) (by kernel_rfl) rfl (agt.2 ⟨Na rfl (by rfl) tBk _ _ rfl P 0 z.cells.toArray rfl rfl hP (by rw[afw,lz];decide) (by rw[afw,lz];exact bR) ha1 (by omega) (λw5 DS hS eS kS bS sS=>?_),by simp⟩)
       obtain rfl:DS=z.cells.toArray:=agX (by rw[eS,afw,lz];simp)
       clear eS
       have hQ5:=kS Q _ (by simp;omega) hQ
       simp only[Act.put]
       refine AnyE.all (rs:=[13]) (by kernel_rfl) rfl (agt.2 ⟨Na rfl (by rfl) tBk _ _ rfl Q 0 x.cells.toArray rfl rfl hQ5 (by rw[afw,lx];decide) (by rw[afw,lx];exact bR) hx1 (by omega) (λw6 DS hS2 eS kS2 bS2 sS2=>?_),by simp⟩)
       obtain rfl:DS=x.cells.toArray:=agX (by rw[eS,afw,lx];simp)
       clear eS
       have HE:=Lib.hid (And.intro (kS2 P _ (by simp;omega) hS) (And.intro hS2 ((((hbd.trans bN).trans bN2).trans bS).trans bS2)))
       clear kS kS2 bS bS2 sS sS2 hQ5 hS hS2 hP hQ hH kN kN2 bN bN2 sN sN2 eP eQ hPQ
       simp only[Act.put]
       refine AnyE.done (by kernel_rfl) ?_
       go_wp2_with fail
       go_meet
       exact⟨P,Q,rfl,rfl,HE.out.1,HE.out.2.1,HE.out.2.2⟩
     obtain⟨P,Q,rfl,rfl,hP,hQ,hbx⟩:=hcut
     have HOC:=Lib.hid (HO.out.trans (hbx.mono HO.out.size))
     have HBC:=Lib.hid (HBL.out.trans (hbx.mono hwr))
     have p0:wc.cell? ⟨P,0,none⟩=some (.slice Zs x.st.length ds):=by rw[ahF wc P 0 _ tBk (0,0) hP,<-HEZ.out];rfl
     have q0:wc.cell? ⟨Q,0,none⟩=some (.slice As x.st.length cs):=by rw[ahF wc Q 0 _ tBk (0,0) hQ,<-HES.out];rfl
     have hjr:∀{y:bU} {G:Nat},wc.heap[G]? =some (.cells y.cells.toArray tBk (0,0))->wc.rangeAt G 1 (y.pre++y.a::y.post):=λhG j u hj=>by
      rw[ahF _ _ (1+j) _ tBk (0,0) hG,ags 1 j]
      simpa[bU.cells]using hj
     have j13:∀{y:bU},y.cells.length=14->(y.pre++y.a::y.post).length=13:=λ{y} h=>by
      have:y.cells.length=(y.pre++y.a::y.post).length+1:=rfl
      omega
     have HRP:=Lib.hid (hjr hP)
     have HRQ:=Lib.hid (hjr hQ)
     have jz:=j13 lz
     have jx:=j13 lx
     have HP:=Lib.hid hP
     have HQ:=Lib.hid hQ
     clear hjr hP hQ hbx j13
     go_upto_region 14 with(first |(refine wpList_want (by rfl) (wp_load_mid 81 _ rfl P 1 rfl (z.pre++z.a::z.post) _ HRP.out Tryz.underlying81 rfl (by rw[jz];exact jR) ?_))|(refine wpList_want (by rfl) (wp_load_mid 81 _ rfl Q 1 rfl (x.pre++x.a::x.post) _ HRQ.out Tryz.underlying81 rfl (by rw[jx];exact jR) ?_))|(go_at_call 116;refine(HSJ.out _ HOC.out).mono ?_;rintro e w2 ⟨rfl,b2⟩))
     have HB2:=Lib.hid (HBC.out.trans (b2.mono HBC.out.size))
     have HO2:=Lib.hid (HOC.out.trans (b2.mono HOC.out.size))
     have HP2:=Lib.hid ((b2.block _ (aeN.1 HP.out).1).trans HP.out)
     have HQ2:=Lib.hid ((b2.block _ (aeN.1 HQ.out).1).trans HQ.out)
     clear p0 q0 b2 HBC HOC HRP HRQ HSJ HP HQ
     go_wp2_with fail
     go_loopg [9] x.st.length (λg s9 w8=>∃k:Nat,s9=.int .i64 k/\k<=x.st.length/\g=x.st.length-k/\Below w2.heap.size w2 w8)
     case atStart=>exact⟨0,rfl,afb _,rfl,ahE _ _⟩
     case round=>
      obtain⟨k,rfl,hk,rfl,hbel⟩:=hrel
      have h0K:(0:Int)<=(k:Int):=afa _
      have hP3:=(hbel.block _ (aeN.1 HP2.out).1).trans HP2.out
      have hQ3:=(hbel.block _ (aeN.1 HQ2.out).1).trans HQ2.out
      have p0:wr.cell? ⟨P,0,none⟩=some (.slice Zs x.st.length ds):=by rw[ahF wr P 0 _ tBk (0,0) hP3,<-HEZ.out];rfl
      have q0:wr.cell? ⟨Q,0,none⟩=some (.slice As x.st.length cs):=by rw[ahF wr Q 0 _ tBk (0,0) hQ3,<-HES.out];rfl
      have HO3:=Lib.hid (HO2.out.trans (hbel.mono HO2.out.size))
      have HBEL:=Lib.hid hbel
      clear hbel hP3 hQ3
      rcases afp k x.st.length with hkl|hkg
      ·have hklI:(k:Int)<(x.st.length:Int):=by omega
       obtain⟨el,hel⟩:∃el,x.st[k]? =some el:=⟨_,aeK hkl⟩
       have hkk:=HSK.out el (aeY hel)
       obtain⟨gs,os,eS,_,hrs⟩:=(HRS.out.below HO3.out) k el hel
       obtain⟨gz,oz,eZ,_,hrz⟩:=(HRZ.out.below HO3.out) k el hel
       subst eS eZ
       have h26:el.length=26:=hkk.len.symm
       have HNE:=Lib.hid (λW=>a2k hkk W)
       have HA:=Lib.hid hrs
       have HC:=Lib.hid hrz
       clear hel hkk hrs hrz
       go_upto_region 17 with fail
       refine bH (⟨P,0,none⟩::⟨Q,0,none⟩::(um gz (oz+k*26) 26++um gs (os+k*26) 26)) [(0,true),(1,true),(2,true),(3,true),(4,true),(5,true),(6,true),(7,true),(8,true),(9,true),(10,true)] (by kernel_rfl) (by kernel_rfl) (by decide) (by kernel_rfl) (λ_ _ _ _ _ h=>h) ?_
       have p0:wr.drew.cell? ⟨P,0,none⟩=_:=p0
       have q0:wr.drew.cell? ⟨Q,0,none⟩=_:=q0
       iterate 11 ((first
        |refine SeqC.take rfl (by rfl) (λW hW=>oQ 63 _ rfl gz (oz+k*26) rfl el _ (Cells.rng (n:=26) hW (by intro p hp;simp[hp]) HC.out h26) Tryz.underlying63 rfl (by rw[h26];exact sR)) ?_
        |refine SeqC.take rfl (by rfl) (λW hW=>oQ 63 _ rfl gs (os+k*26) rfl el _ (Cells.rng (n:=26) hW (by intro p hp;simp[hp]) HA.out h26) Tryz.underlying63 rfl (by rw[h26];exact sR)) ?_
        |refine SeqC.take rfl (by rfl) (λW hW=>OA 63 _ _ _ rfl rfl rfl (by kernel_rfl) (HNE.out W)) ?_
        |(refine SeqC.take (v:=?_) rfl (by rfl) (λW hW=>?_) ?_;rotate_left;(focus(have v0:=hW.get (by simp) p0;have v1:=hW.get (by simp) q0;go_simp;with_reducible rfl))));simp only[Act.put,aeJ,aeP,aeO])
       refine SeqC.done ?_
       go_wp2_with fail
       go_roundg (x.st.length-(k+1))
       case measure=>omega
       case rel=>exact⟨k+1,by simp,by omega,rfl,HBEL.out.drew⟩
      ·obtain rfl:k=x.st.length:=by omega
       go_wp2_with fail
       go_roundg (D.bs.length-(i+1))
       case measure=>omega
       case rel=>exact⟨i+1,by simp,by omega,rfl,HB2.out.trans (HBEL.out.mono HB2.out.size)⟩
    ·obtain rfl:i=D.bs.length:=by omega
     go_wp2_with fail
     go_ret
     exact⟨rfl,HO.out⟩
theorem aec {w:World}{v v' fv fv':Value}{Ds Es:List FnD}(h:dS w v fv Ds)(h':dS w v' fv' Es)(hc:Es.map FnD.core=Ds.map FnD.core)(h8:Ds.length<=100)(hl:∀D∈Ds,Lim D):Calls Tryz.prog 18 #[v',v] w (Yes w):=by
 have hlen:Es.length=Ds.length:=by have:=congrArg List.length hc;rwa[af4,af4]at this
 obtain⟨A,c,e,_,_,hr⟩:=h.rows
 obtain⟨B,d,e',_,_,hr'⟩:=h'.rows
 rw[e,e',hlen]
 have HS:=Lib.hid (λ(W:World) (hW:Below w.heap.size w W) (D E:FnD) (hD:D∈Ds) (hE:E∈Es) (hDE:E.core=D.core)=>aey ((h.fn D hD).frz hW.block) ((h'.fn E hE).frz hW.block) hDE (hl D hD))
 have HC:=Lib.hid hc
 have HR:=Lib.hid hr
 have HR':=Lib.hid hr'
 have HN:=Lib.hid hlen
 clear h h' hr hr' hc hl e e' hlen
 have b0:Below w.heap.size w ((w.alloc (.cells #[.slice B Ds.length d] tPr)).alloc (.cells #[.slice A Ds.length c] tPr)):=((ahE _ _).alloc (aeM _) _).alloc (by simp) _
 have P0:((w.alloc (.cells #[.slice B Ds.length d] tPr)).alloc (.cells #[.slice A Ds.length c] tPr)).heap[w.heap.size]? =some (.cells #[.slice B Ds.length d] tPr (0,0)):=dA (ay rfl)
 have P1:((w.alloc (.cells #[.slice B Ds.length d] tPr)).alloc (.cells #[.slice A Ds.length c] tPr)).heap[w.heap.size+1]? =some (.cells #[.slice A Ds.length c] tPr (0,0)):=ay (by simp)
 generalize hw1:(w.alloc (.cells #[.slice B Ds.length d] tPr)).alloc (.cells #[.slice A Ds.length c] tPr)=w1 at *
 have HB:=Lib.hid b0
 have HP0:=Lib.hid P0
 have HP1:=Lib.hid P1
 have hs1:=(aeN.1 P1).1
 have HW1:=Lib.hid hw1
 clear b0 P0 P1 hw1
 generalize hn:Ds.length=n at *
 go_enter Tryz.func18,Tryz.ntmps18
 go_upto_region 1 with fail
 rw[HW1.out]
 have y0:w1.cell? ⟨w.heap.size,0,none⟩=some (.slice B n d):=by rw[Lib.cell_of_heap HP0.out];rfl
 have y1:w1.cell? ⟨w.heap.size+1,0,none⟩=some (.slice A n c):=by rw[Lib.cell_of_heap HP1.out];rfl
 go_wp2_with fail
 clear y0 y1
 go_loopg [5] n (λg s5 w8=>∃i:Nat,s5=.int .i64 i/\i<=n/\g=n-i/\Below w1.heap.size w1 w8)
 case atStart=>exact⟨0,rfl,afb _,rfl,ahE _ _⟩
 case round=>
  obtain⟨i,rfl,hi,rfl,hbel⟩:=hrel
  have h0I:(0:Int)<=(i:Int):=afa _
  have HBL:=Lib.hid hbel
  have HO:=Lib.hid (HB.out.trans (hbel.mono HB.out.size))
  have y0:wr.cell? ⟨w.heap.size,0,none⟩=some (.slice B n d):=by rw[Lib.cell_of_heap ((hbel.block _ (by omega)).trans HP0.out)];rfl
  have y1:wr.cell? ⟨w.heap.size+1,0,none⟩=some (.slice A n c):=by rw[Lib.cell_of_heap ((hbel.block _ hs1).trans HP1.out)];rfl
  have hwr:=hbel.size
  clear hbel
  rcases afp i n with hlt|hge
  ·have hltI:(i:Int)<(n:Int):=by omega
   obtain⟨D,hD⟩:∃D,Ds[i]? =some D:=⟨_,aeK (by omega)⟩
   obtain⟨E,hE⟩:∃E,Es[i]? =some E:=⟨_,aeK (by rw[HN.out];omega)⟩
   have hDE:E.core=D.core:=by
    have hi:=congrArg (λl=>l[i]?) HC.out
    simp only[aeT,hD,hE]at hi
    exact afE hi
   obtain⟨g,o,eA,hg,hr⟩:=iZ (HR.out.below HO.out) hD
   obtain⟨g',o',eB,hg',hr'⟩:=iZ (HR'.out.below HO.out) hE
   subst eA eB
   have HSD:=Lib.hid (λW hW=>HS.out W hW D E (aeY hD) (aeY hE) hDE)
   have HA:=Lib.hid hr
   have HA':=Lib.hid hr'
   clear hD hE hDE hr hr'
   go_upto_region 6 with fail
   refine bH (⟨w.heap.size,0,none⟩::⟨w.heap.size+1,0,none⟩::(um g' (o'+i*4) 4++um g (o+i*4) 4)) [(0,true),(1,true),(2,true),(3,true),(4,true),(5,true),(6,true),(7,true),(8,true),(9,true),(10,false),(11,true)] (by kernel_rfl) (by kernel_rfl) (by decide) (by kernel_rfl) (λ_ _ _ _ _ h=>h) ?_
   have y0:wr.drew.cell? ⟨w.heap.size,0,none⟩=_:=y0
   have y1:wr.drew.cell? ⟨w.heap.size+1,0,none⟩=_:=y1
   iterate 10 ((first
    |refine SeqC.take rfl (by rfl) (λW hW=>oQ tFn _ rfl g' (o'+i*4) rfl _ _ (Cells.rng (n:=4) hW (by intro p hp;simp[hp]) HA'.out rfl) Tryz.underlying40 rfl fnR) ?_
    |refine SeqC.take rfl (by rfl) (λW hW=>oQ tFn _ rfl g (o+i*4) rfl _ _ (Cells.rng (n:=4) hW (by intro p hp;simp[hp]) HA.out rfl) Tryz.underlying40 rfl fnR) ?_
    |(refine SeqC.take (v:=?_) rfl (by rfl) (λW hW=>?_) ?_;rotate_left;(focus(have v0:=hW.get (by simp) y0;have v1:=hW.get (by simp) y1;go_simp;with_reducible rfl))));simp only[Act.put,aeJ,aeP,aeO])
   refine SeqC.call (f:=?_) (args:=?_) rfl (by rfl) ?_ ?_
   rotate_left 2
   ·(go_simp;first |with_reducible rfl|(refine⟨?_,?_⟩<;>with_reducible rfl))
   refine(HSD.out _ HO.out.drew).mono ?_
   rintro e w9 ⟨rfl,b9⟩
   refine⟨_,rfl,Cells.nM b9 (by
    intro p hp
    simp only[um,aeQ,afl,afo]at hp
    rcases hp with rfl|rfl|⟨_,_,rfl⟩|⟨_,_,rfl⟩
    ·show w.heap.size<wr.heap.size;omega
    ·show w.heap.size+1<wr.heap.size;omega
    ·exact hg'
    ·exact hg),?_⟩
   simp only[Act.put,aeJ,aeP,aeO]
   refine SeqC.take (v:=?_) rfl (by rfl) (λW hW=>?_) ?_;rotate_left;(focus(go_simp;with_reducible rfl));simp only[Act.put,aeJ,aeP,aeO]
   refine SeqC.done ?_
   have HB9:=Lib.hid (HBL.out.drew.trans (b9.mono HBL.out.drew.size))
   clear b9
   go_wp2_with fail
   go_roundg (n-(i+1))
   case measure=>omega
   case rel=>exact⟨i+1,by simp,by omega,rfl,HB9.out⟩
  ·obtain rfl:i=n:=by omega
   go_wp2_with fail
   go_ret
   exact⟨rfl,HO.out⟩
