/- text.function: the lines of a function, behind what the builder holds; by the contracts of what it calls. -/
import Derived.Test.YtnhnelgkcldkbaaGreatDoorRegG
set_option linter.all false
set_option maxHeartbeats 8000000
set_option maxRecDepth 100000
namespace Go.Proofs.YtnhnelgkcldkbaaGreatDoor
namespace txt
open Go.RowKit Am loan bld
abbrev tFn:TypeId:=40
abbrev tBk:TypeId:=99
abbrev tSt:TypeId:=63
abbrev tJm:TypeId:=81
theorem bR:(Tryz.prog.info? 99).map (·.size)=some 14:=by kernel_rfl
theorem sR:(Tryz.prog.info? 63).map (·.size)=some 26:=by kernel_rfl
theorem jR:(Tryz.prog.info? 81).map (·.size)=some 13:=by kernel_rfl
theorem kQ {w:World}{A:Option Addr}{sz:Nat}{els:List (List Value)}(h:dR w A sz els)(h0:0<els.length):∃g o,A=some ⟨g,o,none⟩/\g<w.heap.size/\∀i el,els[i]? =some el->w.rangeAt g (o+i*sz) el:=by
 obtain⟨x,hx⟩:∃x,els[0]? =some x:=⟨_,aeK h0⟩
 obtain⟨g,o,rfl,hg,_⟩:=h 0 x hx
 refine⟨g,o,rfl,hg,λi el hi=>?_⟩
 obtain⟨g',o',e,_,hr⟩:=h i el hi
 cases e
 exact hr
theorem jT {w w':World}{g o:Nat}{cs:List Value}(h:w.rangeAt g o cs)(hg:g<w.heap.size)(hb:Below w.heap.size w w'):w'.rangeAt g o cs:=λj u hj=>(hb.cell (p:=⟨g,o+j,none⟩) hg).trans (h j u hj)
structure Cons (w0:World)(D:FnD):Prop where
 it:∀n:Int,-9223372036854775808<=n->n<=9223372036854775807->∀W,Below w0.heap.size w0 W->Calls Tryz.prog 68 #[.int .i64 n] W (bld.Ans W (.string ⟨(gy n).toArray⟩))
 ty:∀t∈D.ls,∀W,Below w0.heap.size w0 W->Calls Tryz.prog 101 #[.agg t.toArray] W (bld.Ans W (.tuple #[.string ⟨(ED t).toArray⟩,.int .i64 0]))
 st:∀b∈D.bs,∀s∈b.st,∀W,Below w0.heap.size w0 W->Calls Tryz.prog 60 #[.agg s.toArray] W (bld.Ans W (.tuple #[.string ⟨(stT (a0d s)).toArray⟩,.int .i64 0]))
 jm:∀b∈D.bs,∀W,Below w0.heap.size w0 W->Calls Tryz.prog 103 #[.agg (b.pre++b.a::b.post).toArray] W (bld.Ans W (.tuple #[.string ⟨(zy b.pre b.ops b.post).toArray⟩,.int .i64 0]))
structure Vars (D:FnD)(b X:Nat)(lv bv:Value)(W:World):Prop where
 x:W.heap[X]? =some (.cells #[.pointer (some ⟨b,0,none⟩)] tPB (0,0))
 y:W.heap[X+1]? =some (.cells #[.int .i64 D.p,.bool D.u,lv,bv] tFn (0,0))
theorem Vars.wrote {D:FnD}{b X:Nat}{lv bv:Value}{W W':World}(h:Vars D b X lv bv W)(hX:b<X)(hw:Wrote tU b W W'):Vars D b X lv bv W':=
 ⟨hw.block h.x (by omega) (by decide),hw.block h.y (by omega) (by decide)⟩
theorem Vars.cells {D:FnD}{b X:Nat}{lv bv:Value}{W:World}(h:Vars D b X lv bv W):
  W.cell? ⟨X,0,none⟩=some (.pointer (some ⟨b,0,none⟩))/\W.cell? ⟨X+1,0,none⟩=some (.int .i64 D.p)/\W.cell? ⟨X+1,1,none⟩=some (.bool D.u)/\W.cell? ⟨X+1,2,none⟩=some lv/\W.cell? ⟨X+1,3,none⟩=some bv:=
 ⟨by rw[ahF W X 0 _ tPB (0,0) h.x];rfl,by rw[ahF W (X+1) 0 _ tFn (0,0) h.y];rfl,by rw[ahF W (X+1) 1 _ tFn (0,0) h.y];rfl,by rw[ahF W (X+1) 2 _ tFn (0,0) h.y];rfl,by rw[ahF W (X+1) 3 _ tFn (0,0) h.y];rfl⟩
structure Now (D:FnD)(b X:Nat)(lv bv:Value)(w:World)(zs:List (Nat×Array Value×TypeId))(l:List UInt8)(W:World):Prop where
 vv:Vars D b X lv bv W
 zz:∀p∈zs,p.1≠b/\p.2.2≠tU/\W.heap[p.1]? =some (.cells p.2.1 p.2.2 (0,0))
 bb:Bld tB tU b l W
 ww:Wrote tU b w W
section
variable {D:FnD} {b X:Nat} {lv bv:Value} {w w0 W W':World} {zs:List (Nat×Array Value×TypeId)} {l l':List UInt8}
theorem Now.wr (h:Now D b X lv bv w zs l W)(hX:b<X)(hb:Bld tB tU b l' W')(hw:Wrote tU b W W'):Now D b X lv bv w zs l' W':=
 ⟨h.vv.wrote hX hw,λp hp=>⟨(h.zz p hp).1,(h.zz p hp).2.1,hw.block (h.zz p hp).2.2 (h.zz p hp).1 (h.zz p hp).2.1⟩,hb,h.ww.trans hw⟩
theorem Now.below (h:Now D b X lv bv w zs l W)(hX:b<X)(hb:Below W.heap.size W W'):Now D b X lv bv w zs l W':=h.wr hX (h.bb.below hb) (.of_below hb (afk h.bb.lt))
theorem Now.drew (h:Now D b X lv bv w zs l W):Now D b X lv bv w zs l W.drew:=⟨⟨h.vv.x,h.vv.y⟩,h.zz,h.bb,⟨h.ww.bel.drew,h.ww.oth⟩⟩
theorem Now.old (h:Now D b X lv bv w zs l W)(hw:Below w0.heap.size w0 w)(hb:w0.heap.size<=b):Below w0.heap.size w0 W:=hw.trans (h.ww.bel.mono hb)
theorem Now.more (h:Now D b X lv bv w zs l W){Z:Nat}{cs:Array Value}{t:TypeId}(hZ:Z≠b)(ht:t≠tU)(hz:W.heap[Z]? =some (.cells cs t (0,0))):Now D b X lv bv w ((Z,cs,t)::zs) l W:=
 ⟨h.vv,λp hp=>(aeQ.1 hp).elim (λe=>by subst e;exact⟨hZ,ht,hz⟩) (h.zz p),h.bb,h.ww⟩
theorem Now.less {z:Nat×Array Value×TypeId}(h:Now D b X lv bv w (z::zs) l W):Now D b X lv bv w zs l W:=⟨h.vv,λp hp=>h.zz p (afd _ hp),h.bb,h.ww⟩
theorem Now.last {z:Nat×Array Value×TypeId}(h:Now D b X lv bv w (z::zs) l W):W.heap[z.1]? =some (.cells z.2.1 z.2.2 (0,0)):=(h.zz z afh).2.2
end
theorem Hz {w0 w:World}{v:Value}{D:FnD}{b:Nat}{acc:List UInt8}{n:Int}(hF:aZ w0 v D)(hL:Lim D)(hC:Cons w0 D)(hb0:w0.heap.size<=b)(hw:Below w0.heap.size w0 w)(h:Bld tB tU b acc w)(hacc:acc.length<=100000000)
  (hn:-9223372036854775808<=n/\n<=9223372036854775807):Calls Tryz.prog 45 #[.pointer (some ⟨b,0,none⟩),v,.int .i64 n] w (Wr b (acc++textF D n) w):=by
 obtain⟨A,c,eb,hmb,hrb⟩:=aZ.blks hF
 obtain⟨Al,cl,el,hml,hrl⟩:=bT.rows hF.locals (by decide)
 obtain⟨gb,ob,rfl,hgb,hrb⟩:=kQ hrb (by rw[af4];exact hL.b0)
 obtain⟨gl,ol,rfl,hgl,hrl⟩:=kQ hrl hL.l0
 obtain⟨hp0,hp1⟩:-9223372036854775808<=D.p/\D.p<=9223372036854775807:=by
  obtain⟨p,e,hp⟩:=hF.pk
  cases e
  exact hp
 rw[hF.eq,eb,el]
 have hbl:=h.lt
 have hnl:=hL.l
 have hnb:=hL.b
 have hl0:nl (AY D n 0)=Cj n D.p D.u++[10]:=by rw[Mc,V7]
 have HLM0:=Lib.hid (Qa hL n (afb _))
 obtain⟨X,hX⟩:∃X,X=w.heap.size:=⟨_,rfl⟩
 obtain⟨w1,hw1⟩:∃w1,w1=(w.alloc (.cells #[.pointer (some ⟨b,0,none⟩)] tPB)).alloc (.cells #[.int .i64 D.p,.bool D.u,.slice (some ⟨gl,ol,none⟩) D.ls.length cl,.slice (some ⟨gb,ob,none⟩) D.bs.length c] tFn):=⟨_,rfl⟩
 have b1:Below w.heap.size w w1:=by rw[hw1];exact((ahE _ _).alloc (aeM _) _).alloc (by simp) _
 have hXb:b<X:=by rw[hX];exact hbl
 have HNB:=Lib.hid (show Now D b X (.slice (some ⟨gl,ol,none⟩) D.ls.length cl) (.slice (some ⟨gb,ob,none⟩) D.bs.length c) w [] acc w1 from⟨by rw[hw1,hX];exact⟨dA (ay rfl),ay (by simp)⟩,(λp hp=>by cases hp),h.below b1,Wrote.of_below b1 (afk hbl)⟩)
 have HF:=Lib.hid hF
 have HL:=Lib.hid hL
 have HC:=Lib.hid hC
 have HWW:=Lib.hid hw
 have HRB:=Lib.hid hrb
 have HRL:=Lib.hid hrl
 obtain⟨y0,y1,y2,y3,y4⟩:=HNB.out.vv.cells
 rw[hX]at y0 y1 y2 y3 y4
 clear hF hL hC hw hrb hrl eb el h b1
 generalize hu:D.u=u at hw1 y2 |-
 have HU:=Lib.hid hu
 clear hu
 go_enter Tryz.func45,Tryz.ntmps45
 go_upto_if 16 with fail
 rw[<-hw1]
 go_cut [6] (λs6 wx=>s6=.string ⟨(JQ u).toArray⟩/\wx=w1)
 case first=>
  cases u
  ·go_wp2_with fail
   go_meet
   exact⟨rfl,rfl⟩
  ·go_wp2_with fail
   go_meet
   exact⟨rfl,rfl⟩
 obtain⟨rfl,rfl⟩:=hcut
 rw[<-hX]at *
 go_upto_region 4 with fail
 clear hw1 y0 y1 y2 y3 y4
 refine bH [⟨X,0,none⟩,⟨X+1,0,none⟩] [(0,true),(1,true),(3,true),(4,true),(6,true),(2,false),(5,false),(7,false),(8,false)] (by kernel_rfl) (by kernel_rfl) (by decide) (by kernel_rfl) (λ_ _ _ _ _ h=>h) ?_
 have HN0:=Lib.hid (HNB.out.drew)
 generalize wc.drew=wd at HN0 |-
 obtain⟨q0,q1,q2,q3,q4⟩:=HN0.out.vv.cells
 iterate 5 (refine SeqC.take (v:=?_) rfl (by rfl) (λW hW=>?_) ?_;rotate_left;(focus(have zq0:=hW.get (by simp) q0;have zq1:=hW.get (by simp) q1;go_simp;with_reducible rfl));simp only[Act.put,aeJ,aeP,aeO])
 clear q0 q1 q2 q3 q4
 refine SeqC.call (f:=?_) (args:=?_) rfl (by rfl) ?_ ?_
 rotate_left 2
 ·(go_simp;first |with_reducible rfl|(refine⟨?_,?_⟩<;>with_reducible rfl))
 refine(HC.out.it n hn.1 hn.2 _ (HN0.out.old HWW.out hb0)).mono ?_
 rintro e wi0 ⟨rfl,bi0⟩
 have HN1:=Lib.hid (HN0.out.below hXb bi0)
 refine⟨_,rfl,(by intro p hp;simp only[aeQ,aeZ,afj]at hp;rcases hp with rfl|rfl<;>first |exact HN1.out.vv.cells.1.trans HN0.out.vv.cells.1.symm|exact HN1.out.vv.cells.2.1.trans HN0.out.vv.cells.2.1.symm),?_⟩
 simp only[Act.put,aeJ,aeP,aeO]
 clear bi0
 refine SeqC.call (f:=?_) (args:=?_) rfl (by rfl) ?_ ?_
 rotate_left 2
 ·(go_simp;first |with_reducible rfl|(refine⟨?_,?_⟩<;>with_reducible rfl))
 refine(HC.out.it D.p hp0 hp1 _ (HN1.out.old HWW.out hb0)).mono ?_
 rintro e wi1 ⟨rfl,bi1⟩
 have HN2:=Lib.hid (HN1.out.below hXb bi1)
 refine⟨_,rfl,(by intro p hp;simp only[aeQ,aeZ,afj]at hp;rcases hp with rfl|rfl<;>first |exact HN2.out.vv.cells.1.trans HN1.out.vv.cells.1.symm|exact HN2.out.vv.cells.2.1.trans HN1.out.vv.cells.2.1.symm),?_⟩
 simp only[Act.put,aeJ,aeP,aeO]
 clear bi1
 refine SeqC.val (v:=.slice (some ⟨wi1.heap.size,0,none⟩) 6 6) (w':=wi1.alloc (.cells #[.string ⟨([102,110,32]).toArray⟩,.string ⟨(gy n).toArray⟩,.string ⟨([32,40]).toArray⟩,.string ⟨(gy D.p).toArray⟩,.string ⟨([41]).toArray⟩,.string ⟨(JQ u).toArray⟩] tS1)) rfl (by rfl) (by go_simp;try with_reducible rfl) (Cells.nM ((ahE _ _).alloc (aeM _) _) (by intro p hp;simp only[aeQ,aeZ,afj]at hp;have hl1:=(aeN.1 HN2.out.vv.x).1;have hl2:=(aeN.1 HN2.out.vv.y).1;rcases hp with rfl|rfl<;>first |exact hl1|exact hl2)) ?_
 simp only[Act.put,aeJ,aeP,aeO]
 have HR:=Lib.hid (qo.new (b:=b) (e:=tU) (t:=tS1) (l:=[[102,110,32],gy n,[32,40],gy D.p,[41],JQ u]) (ahw HN2.out.bb.lt) (by decide) (ay (w:=wi1) (o:=.cells #[.string ⟨([102,110,32]).toArray⟩,.string ⟨(gy n).toArray⟩,.string ⟨([32,40]).toArray⟩,.string ⟨(gy D.p).toArray⟩,.string ⟨([41]).toArray⟩,.string ⟨(JQ u).toArray⟩] tS1) rfl))
 have HN3:=Lib.hid (HN2.out.below hXb ((ahE _ _).alloc (aeM _) (.cells #[.string ⟨([102,110,32]).toArray⟩,.string ⟨(gy n).toArray⟩,.string ⟨([32,40]).toArray⟩,.string ⟨(gy D.p).toArray⟩,.string ⟨([41]).toArray⟩,.string ⟨(JQ u).toArray⟩] tS1)))
 generalize wi1.alloc (.cells #[.string ⟨([102,110,32]).toArray⟩,.string ⟨(gy n).toArray⟩,.string ⟨([32,40]).toArray⟩,.string ⟨(gy D.p).toArray⟩,.string ⟨([41]).toArray⟩,.string ⟨(JQ u).toArray⟩] tS1)=wj at HR HN3 |-
 refine SeqC.call (f:=?_) (args:=?_) rfl (by rfl) ?_ ?_
 rotate_left 2
 ·(go_simp;first |with_reducible rfl|(refine⟨?_,?_⟩<;>with_reducible rfl))
 refine(NG (parts:=[[102,110,32],gy n,[32,40],gy D.p,[41],JQ u]) HN3.out.bb HR.out (by have h1:=HLM0.out;rw[hl0]at h1;unfold Cj at h1;rw[HU.out]at h1;simp only[aeL,afP,agH,aft,afi,afC]at h1 |-;omega) (by simp)).mono ?_
 rintro e w9 ⟨rfl,bl9,wr9⟩
 have HN9:=Lib.hid (HN3.out.wr hXb bl9 wr9)
 refine⟨_,rfl,(by intro p hp;simp only[aeQ,aeZ,afj]at hp;rcases hp with rfl|rfl<;>first |exact HN9.out.vv.cells.1.trans HN3.out.vv.cells.1.symm|exact HN9.out.vv.cells.2.1.trans HN3.out.vv.cells.2.1.symm),?_⟩
 simp only[Act.put,aeJ,aeP,aeO]
 refine SeqC.done ?_
 have HL0:=Lib.hid (show Now D b X (.slice (some ⟨gl,ol,none⟩) D.ls.length cl) (.slice (some ⟨gb,ob,none⟩) D.bs.length c) w [] (acc++nl (AY D n 0)) w9 from by rw[Mc,V7];unfold Cj;rw[HU.out];simpa using HN9.out)
 clear bl9 wr9 HR HN9 HN0 HN1 HN2 HN3
 obtain⟨q0,q1,q2,q3,q4⟩:=HL0.out.vv.cells
 clear HNB HLM0
 go_wp2_with fail
 clear q0 q1 q2 q3 q4
 go_loopg [29] D.ls.length (λg s29 w8=>∃i:Nat,s29=.int .i64 i/\i<=D.ls.length/\g=D.ls.length-i/\Now D b X (.slice (some ⟨gl,ol,none⟩) D.ls.length cl) (.slice (some ⟨gb,ob,none⟩) D.bs.length c) w [] (acc++nl (AY D n i)) w8)
 case atStart=>exact⟨0,rfl,afb _,rfl,HL0.out⟩
 case round=>
  clear HL0
  obtain⟨i,rfl,hi,rfl,hnow⟩:=hrel
  have HNT:=Lib.hid hnow
  have HO:=Lib.hid (hnow.old HWW.out hb0)
  clear hnow
  have h0I:(0:Int)<=(i:Int):=afa _
  obtain⟨q0,q1,q2,q3,q4⟩:=HNT.out.vv.cells
  rcases afp i D.ls.length with hlt|hge
  ·have hltI:(i:Int)<(D.ls.length:Int):=by omega
   obtain⟨t,ht⟩:∃t,D.ls[i]? =some t:=⟨_,aeK hlt⟩
   have htm:=aeY ht
   have hrng:=jT (HRL.out i t ht) hgl HO.out
   obtain⟨k,m,rfl⟩:∃k m:Int,t=[.int .u8 k,.int .u8 m]:=by
    have hkt:=HF.out.lkd t htm
    match t,hkt with
    |[_,_],⟨⟨a,rfl,_⟩,⟨b,rfl,_⟩,_⟩=>exact⟨a,b,rfl⟩
   have HTI:=Lib.hid (show D.ls.getD i []=[.int .u8 k,.int .u8 m]from by rw[af8,ht];rfl)
   have p0:=hrng 0 _ rfl
   have p1:=hrng 1 _ rfl
   simp only[afS]at p0
   have HTY:=Lib.hid (HC.out.ty _ htm)
   have HLM:=Lib.hid (Qa HL.out n (i:=i+1) hlt)
   clear ht hrng htm
   go_upto_region 9 with(go_at_call 101;refine(HTY.out _ HO.out).mono ?_;rintro e w8 ⟨rfl,b8⟩)
   have HNT8:=Lib.hid (HNT.out.below hXb b8)
   clear q0 q1 q2 q3 q4 p0 p1 b8 HNT HTY
   refine bH [⟨X,0,none⟩,⟨X+1,0,none⟩] [(0,true),(1,true),(3,true),(2,false),(4,false),(5,false)] (by kernel_rfl) (by kernel_rfl) (by decide) (by kernel_rfl) (λ_ _ _ _ _ h=>h) ?_
   have HN0:=Lib.hid (HNT8.out.drew)
   generalize w8.drew=wd at HN0 |-
   obtain⟨q0,q1,q2,q3,q4⟩:=HN0.out.vv.cells
   iterate 3 (refine SeqC.take (v:=?_) rfl (by rfl) (λW hW=>?_) ?_;rotate_left;(focus(have zq0:=hW.get (by simp) q0;have zq1:=hW.get (by simp) q1;go_simp;with_reducible rfl));simp only[Act.put,aeJ,aeP,aeO])
   clear q0 q1 q2 q3 q4
   refine SeqC.call (f:=?_) (args:=?_) rfl (by rfl) ?_ ?_
   rotate_left 2
   ·(go_simp;first |with_reducible rfl|(refine⟨?_,?_⟩<;>with_reducible rfl))
   refine(HC.out.it (i:Nat) (by omega) (by omega) _ (HN0.out.old HWW.out hb0)).mono ?_
   rintro e wi0 ⟨rfl,bi0⟩
   have HN1:=Lib.hid (HN0.out.below hXb bi0)
   refine⟨_,rfl,(by intro p hp;simp only[aeQ,aeZ,afj]at hp;rcases hp with rfl|rfl<;>first |exact HN1.out.vv.cells.1.trans HN0.out.vv.cells.1.symm|exact HN1.out.vv.cells.2.1.trans HN0.out.vv.cells.2.1.symm),?_⟩
   simp only[Act.put,aeJ,aeP,aeO]
   clear bi0
   refine SeqC.val (v:=.slice (some ⟨wi0.heap.size,0,none⟩) 4 4) (w':=wi0.alloc (.cells #[.string ⟨([120]).toArray⟩,.string ⟨(gy (i:Nat)).toArray⟩,.string ⟨([58,32]).toArray⟩,.string ⟨(ED [.int .u8 k,.int .u8 m]).toArray⟩] tS1)) rfl (by rfl) (by go_simp;try with_reducible rfl) (Cells.nM ((ahE _ _).alloc (aeM _) _) (by intro p hp;simp only[aeQ,aeZ,afj]at hp;have hl1:=(aeN.1 HN1.out.vv.x).1;have hl2:=(aeN.1 HN1.out.vv.y).1;rcases hp with rfl|rfl<;>first |exact hl1|exact hl2)) ?_
   simp only[Act.put,aeJ,aeP,aeO]
   have HR:=Lib.hid (qo.new (b:=b) (e:=tU) (t:=tS1) (l:=[[120],gy (i:Nat),[58,32],ED [.int .u8 k,.int .u8 m]]) (ahw HN1.out.bb.lt) (by decide) (ay (w:=wi0) (o:=.cells #[.string ⟨([120]).toArray⟩,.string ⟨(gy (i:Nat)).toArray⟩,.string ⟨([58,32]).toArray⟩,.string ⟨(ED [.int .u8 k,.int .u8 m]).toArray⟩] tS1) rfl))
   have HN2:=Lib.hid (HN1.out.below hXb ((ahE _ _).alloc (aeM _) (.cells #[.string ⟨([120]).toArray⟩,.string ⟨(gy (i:Nat)).toArray⟩,.string ⟨([58,32]).toArray⟩,.string ⟨(ED [.int .u8 k,.int .u8 m]).toArray⟩] tS1)))
   generalize wi0.alloc (.cells #[.string ⟨([120]).toArray⟩,.string ⟨(gy (i:Nat)).toArray⟩,.string ⟨([58,32]).toArray⟩,.string ⟨(ED [.int .u8 k,.int .u8 m]).toArray⟩] tS1)=wj at HR HN2 |-
   refine SeqC.call (f:=?_) (args:=?_) rfl (by rfl) ?_ ?_
   rotate_left 2
   ·(go_simp;first |with_reducible rfl|(refine⟨?_,?_⟩<;>with_reducible rfl))
   refine(NG (parts:=[[120],gy (i:Nat),[58,32],ED [.int .u8 k,.int .u8 m]]) HN2.out.bb HR.out (by have h1:=HLM.out;rw[KL,sH,HTI.out]at h1;unfold Tz at h1;simp only[aeL,afP,agH,aft,afi,afC]at h1 |-;omega) (by simp)).mono ?_
   rintro e w9 ⟨rfl,bl9,wr9⟩
   have HN9:=Lib.hid (HN2.out.wr hXb bl9 wr9)
   refine⟨_,rfl,(by intro p hp;simp only[aeQ,aeZ,afj]at hp;rcases hp with rfl|rfl<;>first |exact HN9.out.vv.cells.1.trans HN2.out.vv.cells.1.symm|exact HN9.out.vv.cells.2.1.trans HN2.out.vv.cells.2.1.symm),?_⟩
   simp only[Act.put,aeJ,aeP,aeO]
   refine SeqC.done ?_
   have HLn:=Lib.hid (show Now D b X (.slice (some ⟨gl,ol,none⟩) D.ls.length cl) (.slice (some ⟨gb,ob,none⟩) D.bs.length c) w [] (acc++nl (AY D n (i+1))) w9 from by rw[KL,sH,HTI.out];unfold Tz;simpa using HN9.out)
   clear bl9 wr9 HR HN9 HN0 HN1 HN2
   go_wp2
   go_roundg (D.ls.length-(i+1))
   case measure=>omega
   case rel=>exact⟨i+1,by simp,by omega,rfl,HLn.out⟩
  ·obtain rfl:i=D.ls.length:=by omega
   have hN0:=HNT.out
   rw[a3N]at hN0
   have HB0:=Lib.hid hN0
   clear hN0 HNT HO
   go_wp2_with fail
   clear q0 q1 q2 q3 q4
   go_loopg [52] D.bs.length (λg s52 w8=>∃i:Nat,s52=.int .i64 i/\i<=D.bs.length/\g=D.bs.length-i/\Now D b X (.slice (some ⟨gl,ol,none⟩) D.ls.length cl) (.slice (some ⟨gb,ob,none⟩) D.bs.length c) w [] (acc++nl (Ew D n i)) w8)
   case atStart=>exact⟨0,rfl,afb _,rfl,HB0.out⟩
   case round=>
    clear HB0
    obtain⟨i,rfl,hi2,rfl,hnow⟩:=hrel
    have HNT:=Lib.hid hnow
    have HO:=Lib.hid (hnow.old HWW.out hb0)
    clear hnow
    have h0I2:(0:Int)<=(i:Int):=afa _
    rcases afp i D.bs.length with hlt|hge2
    ·have hltI:(i:Int)<(D.bs.length:Int):=by omega
     obtain⟨x,hx⟩:∃x,D.bs[i]? =some x:=⟨_,aeK hlt⟩
     have hxm:=aeY hx
     have hbk:=HF.out.blk x hxm
     obtain⟨As,cs,es,hms,hrs⟩:=jV.KD hbk
     have hcb:=jT (HRB.out i x.cells (by rw[aeT,hx];rfl)) hgb HO.out
     have hbl14:=nZ hbk
     have hb1:=xH hbk
     have HGD:=Lib.hid (show D.bs.getD i noB=x from by rw[af8,hx];rfl)
     have h24:=HL.out.s x hxm
     have hsto:(storeCells ⟨wr.heap.size,0,none⟩ x.cells).run Tryz.prog (wr.alloc (.cells #[.slice none 0 0,.int .u8 0,.int .u8 0,.int .i64 0,.int .i64 0,.bool false,.int .u8 0,.int .i64 0,.int .i64 0,.int .i64 0,.slice none 0 0,.int .i64 0,.bool false,.int .u8 0] 99))=.ok () (wr.alloc (.cells x.cells.toArray 99)):=kK rfl (by rw[hbl14];rfl) hb1
     have HCB:=Lib.hid hcb
     have HES:=Lib.hid es
     have HRS:=Lib.hid hrs
     have HBK:=Lib.hid hbk
     have HXM:=Lib.hid hxm
     clear hcb es hrs hbk hxm hx
     go_upto_region 15 with(first |(refine wpList_load_mid rfl tBk _ rfl gb (ob+i*14) rfl x.cells _ HCB.out Tryz.underlying99 rfl (by rw[hbl14];exact bR) ?_)|(refine rP rfl tBk _ _ rfl rfl _ _ (by simp) x.cells.toArray rfl rfl tBk _ (by rw[afw,hbl14];exact bR) (by rw[afw,hbl14];rfl) (by simpa using hb1) ?_))
     obtain⟨Z,hZ⟩:∃Z,Z=wr.heap.size:=⟨_,rfl⟩
     have HNZ:=Lib.hid (show Now D b X (.slice (some ⟨gl,ol,none⟩) D.ls.length cl) (.slice (some ⟨gb,ob,none⟩) D.bs.length c) w [(Z,x.cells.toArray,tBk)] (acc++nl (Ew D n i)) (wr.alloc (.cells x.cells.toArray tBk))from(HNT.out.below hXb ((ahE _ _).alloc (aeM _) _)).more (by have:=HNT.out.bb.lt;omega) (by decide) (by rw[hZ];exact ay rfl))
     rw[<-hZ]
     generalize wr.alloc (.cells x.cells.toArray tBk)=wz at HNZ |-
     have HLM:=Lib.hid (QX HL.out n (k:=0) hlt)
     clear hsto HNT HO HCB hZ
     refine bH [⟨X,0,none⟩,⟨X+1,0,none⟩] [(0,true),(1,true),(2,false),(3,false),(4,false)] (by kernel_rfl) (by kernel_rfl) (by decide) (by kernel_rfl) (λ_ _ _ _ _ h=>h) ?_
     have HN0:=Lib.hid (HNZ.out.drew)
     generalize wz.drew=wd at HN0 |-
     obtain⟨q0,q1,q2,q3,q4⟩:=HN0.out.vv.cells
     iterate 2 (refine SeqC.take (v:=?_) rfl (by rfl) (λW hW=>?_) ?_;rotate_left;(focus(have zq0:=hW.get (by simp) q0;have zq1:=hW.get (by simp) q1;go_simp;with_reducible rfl));simp only[Act.put,aeJ,aeP,aeO])
     clear q0 q1 q2 q3 q4
     refine SeqC.call (f:=?_) (args:=?_) rfl (by rfl) ?_ ?_
     rotate_left 2
     ·(go_simp;first |with_reducible rfl|(refine⟨?_,?_⟩<;>with_reducible rfl))
     refine(HC.out.it (i:Nat) (by omega) (by omega) _ (HN0.out.old HWW.out hb0)).mono ?_
     rintro e wi0 ⟨rfl,bi0⟩
     have HN1:=Lib.hid (HN0.out.below hXb bi0)
     refine⟨_,rfl,(by intro p hp;simp only[aeQ,aeZ,afj]at hp;rcases hp with rfl|rfl<;>first |exact HN1.out.vv.cells.1.trans HN0.out.vv.cells.1.symm|exact HN1.out.vv.cells.2.1.trans HN0.out.vv.cells.2.1.symm),?_⟩
     simp only[Act.put,aeJ,aeP,aeO]
     clear bi0
     refine SeqC.val (v:=.slice (some ⟨wi0.heap.size,0,none⟩) 3 3) (w':=wi0.alloc (.cells #[.string ⟨([98]).toArray⟩,.string ⟨(gy (i:Nat)).toArray⟩,.string ⟨([58]).toArray⟩] tS1)) rfl (by rfl) (by go_simp;try with_reducible rfl) (Cells.nM ((ahE _ _).alloc (aeM _) _) (by intro p hp;simp only[aeQ,aeZ,afj]at hp;have hl1:=(aeN.1 HN1.out.vv.x).1;have hl2:=(aeN.1 HN1.out.vv.y).1;rcases hp with rfl|rfl<;>first |exact hl1|exact hl2)) ?_
     simp only[Act.put,aeJ,aeP,aeO]
     have HR:=Lib.hid (qo.new (b:=b) (e:=tU) (t:=tS1) (l:=[[98],gy (i:Nat),[58]]) (ahw HN1.out.bb.lt) (by decide) (ay (w:=wi0) (o:=.cells #[.string ⟨([98]).toArray⟩,.string ⟨(gy (i:Nat)).toArray⟩,.string ⟨([58]).toArray⟩] tS1) rfl))
     have HN2:=Lib.hid (HN1.out.below hXb ((ahE _ _).alloc (aeM _) (.cells #[.string ⟨([98]).toArray⟩,.string ⟨(gy (i:Nat)).toArray⟩,.string ⟨([58]).toArray⟩] tS1)))
     generalize wi0.alloc (.cells #[.string ⟨([98]).toArray⟩,.string ⟨(gy (i:Nat)).toArray⟩,.string ⟨([58]).toArray⟩] tS1)=wj at HR HN2 |-
     refine SeqC.call (f:=?_) (args:=?_) rfl (by rfl) ?_ ?_
     rotate_left 2
     ·(go_simp;first |with_reducible rfl|(refine⟨?_,?_⟩<;>with_reducible rfl))
     refine(NG (parts:=[[98],gy (i:Nat),[58]]) HN2.out.bb HR.out (by have h1:=HLM.out;rw[KJ,sH]at h1;unfold bhT at h1;simp only[aeL,afP,agH,aft,afi,afC]at h1 |-;omega) (by simp)).mono ?_
     rintro e w9 ⟨rfl,bl9,wr9⟩
     have HN9:=Lib.hid (HN2.out.wr hXb bl9 wr9)
     refine⟨_,rfl,(by intro p hp;simp only[aeQ,aeZ,afj]at hp;rcases hp with rfl|rfl<;>first |exact HN9.out.vv.cells.1.trans HN2.out.vv.cells.1.symm|exact HN9.out.vv.cells.2.1.trans HN2.out.vv.cells.2.1.symm),?_⟩
     simp only[Act.put,aeJ,aeP,aeO]
     refine SeqC.done ?_
     have HS0:=Lib.hid (show Now D b X (.slice (some ⟨gl,ol,none⟩) D.ls.length cl) (.slice (some ⟨gb,ob,none⟩) D.bs.length c) w [(Z,x.cells.toArray,tBk)] (acc++nl (Ep D n i 0)) w9 from by rw[KJ,sH];unfold bhT;simpa using HN9.out)
     clear bl9 wr9 HR HN9 HN0 HN1 HN2
     have hz9:=HS0.out.last
     have q5:w9.cell? ⟨Z,0,none⟩=some (.slice As x.st.length cs):=by rw[ahF w9 Z 0 _ tBk (0,0) hz9,<-HES.out];rfl
     clear hz9 HLM HNZ
     go_wp2_with fail
     clear q5
     go_loopg [65] x.st.length (λg s65 w8=>∃k:Nat,s65=.int .i64 k/\k<=x.st.length/\g=x.st.length-k/\Now D b X (.slice (some ⟨gl,ol,none⟩) D.ls.length cl) (.slice (some ⟨gb,ob,none⟩) D.bs.length c) w [(Z,x.cells.toArray,tBk)] (acc++nl (Ep D n i k)) w8)
     case atStart=>exact⟨0,rfl,afb _,rfl,HS0.out⟩
     case round=>
      clear HS0
      obtain⟨k,rfl,hk,rfl,hnow⟩:=hrel
      have HNT:=Lib.hid hnow
      have HO:=Lib.hid (hnow.old HWW.out hb0)
      clear hnow
      have h0K:(0:Int)<=(k:Int):=afa _
      rcases afp k x.st.length with hkl|hkg
      ·have hklI:(k:Int)<(x.st.length:Int):=by omega
       obtain⟨el,hel⟩:∃el,x.st[k]? =some el:=⟨_,aeK hkl⟩
       have helm:=aeY hel
       have hkk:=HBK.out.skd el helm
       obtain⟨gs,os,eS,hgs,hrng⟩:=(HRS.out.below HO.out) k el hel
       subst eS
       have h26:el.length=26:=hkk.len.symm
       have h1s:=xM hkk
       have HRN:=Lib.hid hrng
       have HST:=Lib.hid (HC.out.st x HXM.out el helm)
       have HNX:=Lib.hid (Za (n:=n) (i:=i) (by rw[HGD.out];exact hel))
       have HLM:=Lib.hid (QX HL.out n (k:=k+1) hlt)
       have hsto2:(storeCells ⟨wr.heap.size,0,none⟩ el).run Tryz.prog (wr.alloc (.cells #[.int .u8 0,.int .i64 0,.bool false,.int .u8 0,.int .u8 0,.int .u8 0,.int .u8 0,.int .u8 0,.int .i64 0,.int .i64 0,.bool false,.int .u8 0,.int .u8 0,.int .i64 0,.int .i64 0,.bool false,.int .u8 0,.int .i64 0,.bool false,.int .u8 0,.int .u8 0,.int .i64 0,.int .i64 0,.bool false,.int .u8 0,.int .i64 0] 63))=.ok () (wr.alloc (.cells el.toArray 63)):=kK rfl (by rw[h26];rfl) h1s
       clear hrng hel hkk helm
       go_upto_region 19 with(refine wpList_load_mid rfl tSt _ rfl gs (os+k*26) rfl el _ HRN.out Tryz.underlying63 rfl (by rw[h26];exact sR) ?_)
       have hre:(wr.alloc (.cells el.toArray tSt)).rangeAt wr.heap.size 0 el:=λj u hj=>by
        rw[afK,ahF _ wr.heap.size j _ tSt (0,0) (ay rfl)]
        simpa using hj
       have HRE:=Lib.hid hre
       have HNY:=Lib.hid (HNT.out.below hXb ((ahE _ _).alloc (aeM _) (.cells el.toArray tSt)))
       clear hre hsto2 HNT HRN HO
       generalize wr.heap.size=Y at *
       generalize wr.alloc (.cells el.toArray tSt)=wy at *
       have HOY:=Lib.hid (HNY.out.old HWW.out hb0)
       go_wp2_with (first |(refine wpList_load_mid rfl tSt _ rfl Y 0 rfl el _ HRE.out Tryz.underlying63 rfl (by rw[h26];exact sR) ?_)|(go_at_call 60;refine(HST.out _ HOY.out).mono ?_;rintro e w8 ⟨rfl,b8⟩;have HN8:=Lib.hid (HNY.out.below hXb b8))|(go_at_call 102;refine(acw HN8.out.bb HN8.out.vv.x (by have h1:=HLM.out;rw[HNX.out,sH]at h1;unfold stL at h1;simp only[aeL,afi,afC]at h1 |-;omega)).mono ?_;rintro e w9 ⟨rfl,bl9,wr9⟩))
       have HN9:=Lib.hid (HN8.out.wr hXb bl9 wr9)
       go_roundg (x.st.length-(k+1))
       case measure=>omega
       case rel=>exact⟨k+1,by simp,by omega,rfl,by rw[HNX.out,sH,<-af9];exact HN9.out⟩
      ·obtain rfl:k=x.st.length:=by omega
       have hz:=HNT.out.last
       have hrj:wr.rangeAt Z 1 (x.pre++x.a::x.post):=λj u hj=>by
        rw[ahF _ Z (1+j) _ tBk (0,0) hz,ags 1 j]
        simpa[bU.cells]using hj
       have hj13:(x.pre++x.a::x.post).length=13:=by
        have:x.cells.length=(x.pre++x.a::x.post).length+1:=rfl
        omega
       have HRJ:=Lib.hid hrj
       have HJM:=Lib.hid (HC.out.jm x HXM.out)
       have hla:=a0x D n i
       rw[HGD.out]at hla
       have HLA:=Lib.hid hla
       have HLM:=Lib.hid (QE HL.out n (i:=i+1) hlt)
       clear hz hrj hla
       go_wp2_with (first |(refine wpList_load_mid rfl tJm _ rfl Z 1 rfl (x.pre++x.a::x.post) _ HRJ.out Tryz.underlying81 rfl (by rw[hj13];exact jR) ?_)|(go_at_call 103;refine(HJM.out _ HO.out).mono ?_;rintro e w8 ⟨rfl,b8⟩;have HN8:=Lib.hid (HNT.out.below hXb b8))|(go_at_call 102;refine(acw HN8.out.bb HN8.out.vv.x (by have h1:=HLM.out;rw[<-HLA.out,sH]at h1;unfold jmL at h1;simp only[aeL,afi,afC]at h1 |-;omega)).mono ?_;rintro e w9 ⟨rfl,bl9,wr9⟩))
       have HN9:=Lib.hid (HN8.out.wr hXb bl9 wr9)
       go_roundg (D.bs.length-(i+1))
       case measure=>omega
       case rel=>exact⟨i+1,by simp,by omega,rfl,by rw[<-HLA.out,sH,<-af9];exact HN9.out.less⟩
    ·obtain rfl:i=D.bs.length:=by omega
     go_wp2_with fail
     go_end0
     exact⟨rfl,HNT.out.bb,HNT.out.ww⟩
