/- TopForm: the law answers true for every program. -/
import Derived.Test.YtnhnelgkcldkbaaGreatDoorAlive12
import Derived.Test.YtnhnelgkcldkbaaGreatDoorSameE
set_option linter.all false
set_option maxHeartbeats 32000000
set_option maxRecDepth 100000
namespace Go.Proofs.YtnhnelgkcldkbaaGreatDoor
namespace top
open Go.RowKit Am loan bld enc
open txt (lD pW uh Lim Oh a6p abI Xr)
open prg
theorem MB (D:FnD):∀i,i<=D.bs.length->((aQ D.bs i:Nat):Int)=(i:Int)+acc (λb:bU=>(b.st.length:Int)) (D.bs.take i)
 |0,_=>rfl
 |i+1,h=>by
  rw[nH _ _ b0 (by omega)]
  have h1:=MB D i (by omega)
  have h2:aQ D.bs (i+1)=aQ D.bs i+(iV D.bs i+1):=rfl
  rw[h2]
  unfold iV
  omega
theorem AO (D:FnD):size.jl D=((mW D:Nat):Int):=by
 unfold mW
 rw[MB D _ (aeM _),afq]
 rfl
theorem QL:∀{Ds Es:List FnD},Ds.map FnD.core=Es.map FnD.core->U6 Ds=U6 Es
 |[],[],_=>rfl
 |[],_::_,h=>by cases h
 |_::_,[],h=>by cases h
 |D::Ds,E::Es,h=>by
  injection h with h1 h2
  show size.jl D+U6 Ds=size.jl E+U6 Es
  rw[QL h2,<-KI (D:=D),h1,KI]
structure Bx (w:World)(sv:Value)(W:World):Prop where
 b:Below w.heap.size w W
 x:W.heap[w.heap.size]? =some (.cells #[sv] tPr (0,0))
theorem Bx.below {w W W':World}{sv:Value}(h:Bx w sv W)(hb:Below W.heap.size W W'):Bx w sv W':=⟨h.b.trans (hb.mono h.b.size),(hb.block _ (aeN.1 h.x).1).trans h.x⟩
theorem Bx.cell {w W:World}{sv:Value}(h:Bx w sv W):W.cell? ⟨w.heap.size,0,none⟩=some sv:=by rw[Lib.cell_of_heap h.x];rfl
theorem Bx.lt {w W:World}{sv:Value}(h:Bx w sv W):w.heap.size<W.heap.size:=(aeN.1 h.x).1
theorem Bx.start (w:World)(sv:Value):Bx w sv (w.alloc (.cells #[sv] tPr)):=⟨(ahE _ _).alloc (aeM _) _,ay rfl⟩
theorem SX {w:World}{v fv:Value}{Ds:List FnD}(h:dS w v fv Ds)(kt:iq w)(hg:yg Ds=true):Calls Tryz.prog 3 #[v] w (bld.Ans w (.bool true)):=by
 have HA:=Lib.hid (λ(W:World) (hW:Below w.heap.size w W)=>Oj (lD kt hW))
 have HG:=Lib.hid (λ(W:World) (hW:Below w.heap.size w W)=>Hq (h.below hW))
 obtain⟨A,c,e,_⟩:=h.rows
 rw[hg,e]at HG
 rw[e]
 generalize Ds.length=n at *
 clear h kt hg e
 have T0:=Lib.hid (Bx.start w (.slice A n c))
 go_enter Tryz.func3,Tryz.ntmps3
 go_upto_region 2 with(go_at_call 5;refine(HA.out _ T0.out.b).mono ?_;rintro e w1 ⟨rfl,b1⟩)
 have T1:=Lib.hid (T0.out.below b1)
 have c1:=T1.out.cell
 clear b1 T0
 go_wp2_with (go_at_call 6;refine(HG.out _ T1.out.b).mono ?_;rintro e w2 ⟨rfl,b2⟩)
 go_ret
 exact⟨rfl,T1.out.b.trans (b2.mono T1.out.b.size)⟩
theorem a2p {w:World}{v fv:Value}{Ds:List FnD}(h:dS w v fv Ds)(kt:iq w)(hg:yg Ds=false)(hc:jX Ds≠0):Calls Tryz.prog 3 #[v] w (bld.Ans w (.bool true)):=by
 have HA:=Lib.hid (λ(W:World) (hW:Below w.heap.size w W)=>Oj (lD kt hW))
 have HG:=Lib.hid (λ(W:World) (hW:Below w.heap.size w W)=>Hq (h.below hW))
 have HC:=Lib.hid (λ(W:World) (hW:Below w.heap.size w W)=>a2e h W hW)
 obtain⟨A,c,e,_⟩:=h.rows
 rw[hg,e]at HG
 rw[e]at HC
 rw[e]
 generalize jX Ds=x at *
 have hx:(x != 0)=true:=by simp[hc]
 generalize Ds.length=n at *
 clear h kt hg e hc
 have T0:=Lib.hid (Bx.start w (.slice A n c))
 go_enter Tryz.func3,Tryz.ntmps3
 go_upto_region 2 with(go_at_call 5;refine(HA.out _ T0.out.b).mono ?_;rintro e w1 ⟨rfl,b1⟩)
 have T1:=Lib.hid (T0.out.below b1)
 have c1:=T1.out.cell
 clear b1 T0
 go_wp2_with (first |(go_at_call 6;refine(HG.out _ T1.out.b).mono ?_;rintro e w2 ⟨rfl,b2⟩;have T2:=Lib.hid (T1.out.below b2);have c2:=T2.out.cell)|(go_at_call 7;refine(HC.out _ T2.out.b).mono ?_;rintro e w3 ⟨rfl,b3⟩))
 go_ret
 exact⟨rfl,T2.out.b.trans (b3.mono T2.out.b.size)⟩
abbrev fnV (D:FnD):Value:=.agg #[.int .i64 D.p,.bool D.u,D.lv,D.bv]
structure FnC (w:World)(D:FnD):Prop where
 n0:0<mW D
 n6:mW D<=600
 sz:∀W,Below w.heap.size w W->Calls Tryz.prog 11 #[fnV D] W (bld.Ans W (.tuple #[.int .i64 (mW D:Nat),.int .i64 0]))
 pt:∀W,Below w.heap.size w W->Calls Tryz.prog 12 #[fnV D] W (abn tP 2 (FK D) W)
 rc:∀W,Below w.heap.size w W->Calls Tryz.prog 13 #[fnV D] W (V9 D W)
 nm:∀W,Below w.heap.size w W->∀b i,b<D.bs.length->i<=iV D.bs b->Calls Tryz.prog 14 #[fnV D,.agg #[.int .i64 (b:Nat),.int .i64 (i:Nat)]] W (bld.Ans W (.tuple #[.int .i64 ((aQ D.bs b+i:Nat):Int),.int .i64 0]))
 ln:∀W,Below w.heap.size w W->∀b i,b<D.bs.length->i<=iV D.bs b->Calls Tryz.prog 15 #[fnV D,.agg #[.int .i64 (b:Nat),.int .i64 (i:Nat)]] W (bld.Ans W (.tuple #[.int .i64 ((uh D b i:Nat):Int),.int .i64 0]))
theorem FnC.of {w:World}{D:FnD}(h:aZ w (fnV D) D)(hc:check.iY D=0):FnC w D:=by
 have hs:=W9 h hc
 have hK:∀W,Below w.heap.size w W->txt.a4h 47 W (fnV D) 0:=λW hb=>by have:=txt.a8R (h.frz hb.block);rwa[hc]at this
 refine⟨afe (a8D hc) (Ie (bs:=D.bs) D.bs.length),hs.start (aeM _),λW hb=>?_,λW hb=>a0n (h.frz hb.block) hs (hK W hb),λW hb=>a5s (h.frz hb.block) hc,λW hb b i hb1 hi=>?_,λW hb b i hb1 hi=>Xr (h.frz hb.block) (Oh h hc) (hK W hb) hb1 hi⟩
 ·have:=size.Py (h.frz hb.block) hc
  rw[AO]at this
  exact this
 ·obtain⟨x,hx⟩:∃x,D.bs[b]? =some x:=⟨_,aeK hb1⟩
  exact a9J (h.frz hb.block) hc hs hx (by rw[<-BP hx];exact hi)
theorem Zv {w:World}{v fv:Value}{Ds:List FnD}(h:dS w v fv Ds)(kt:iq w)(hg:yg Ds=false)(hc:jX Ds=0):Calls Tryz.prog 3 #[v] w (bld.Ans w (.bool true)):=by
 have k:=vI hc
 have HA:=Lib.hid (λ(W:World) (hW:Below w.heap.size w W)=>Oj (lD kt hW))
 have HG:=Lib.hid (λ(W:World) (hW:Below w.heap.size w W)=>Hq (h.below hW))
 have HC:=Lib.hid (λ(W:World) (hW:Below w.heap.size w W)=>a2e h W hW)
 have hCA:∀W,Below w.heap.size w W->Fz 43 W v 0:=λW hW=>by have:=zQ (h.below hW);rwa[hc]at this
 have HZ:=Lib.hid (λ(W:World) (hW:Below w.heap.size w W)=>a0y (h.below hW) k.ok k.n8 (hCA W hW))
 have HRE:=Lib.hid (λ(W:World) (hW:Below w.heap.size w W)=>a7f (h.below hW) k.ok k.n0 k.n8 (a7q hc) (hCA W hW))
 have HTX:=Lib.hid (λ(W:World) (hW:Below w.heap.size w W)=>O9 (h.below hW) (lD kt hW) hc)
 have HFC:=Lib.hid (λ(D:FnD) (hD:D∈Ds)=>FnC.of (h.fn D hD) (k.ok D hD))
 obtain⟨Vs,hV,hcore⟩:=xu (P:=FnV.ok) (f:=FnV.core) (l:=Ds.map FnD.core) λx hx=>by
  obtain⟨D,hD,rfl⟩:=afo.1 hx
  obtain⟨V,hV,e⟩:=a5D (h.fn D hD) (k.ok D hD)
  exact⟨V,hV,e⟩
 have HBY:=Lib.hid (λ(W:World) (hW:Below w.heap.size w W)=>Vw (h.below hW) hV hcore k.n8 (hCA W hW))
 have HP:=Lib.hid h
 have HKT:=Lib.hid kt
 have HLW:=Lib.hid (a4m hg)
 obtain⟨A,c,e,efv,_,hr⟩:=h.rows
 have HE:=Lib.hid e
 have HR:=Lib.hid hr
 have HK:=Lib.hid k
 have HV:=Lib.hid hV
 have HCORE:=Lib.hid hcore
 have HC0:=Lib.hid hc
 have hn0:=k.n0
 have hn8:=k.n8
 rw[hg,e]at HG
 rw[hc,e]at HC
 rw[e]at HZ HRE HTX HBY |-
 clear h kt hg e hc k hCA hr hV hcore
 generalize hn:Ds.length=n at *
 have HN:=Lib.hid hn
 clear hn
 have T0:=Lib.hid (Bx.start w (.slice A n c))
 go_enter Tryz.func3,Tryz.ntmps3
 go_upto_region 2 with(go_at_call 5;refine(HA.out _ T0.out.b).mono ?_;rintro e w1 ⟨rfl,b1⟩)
 have T1:=Lib.hid (T0.out.below b1)
 have c1:=T1.out.cell
 clear b1 T0 HA
 go_upto_region 4 with(first |(go_at_call 6;refine(HG.out _ T1.out.b).mono ?_;rintro e w2 ⟨rfl,b2⟩;have T2:=Lib.hid (T1.out.below b2);have c2:=T2.out.cell)|(go_at_call 7;refine(HC.out _ T2.out.b).mono ?_;rintro e w3 ⟨rfl,b3⟩))
 have T3:=Lib.hid (T2.out.below b3)
 clear b2 b3 c1 c2 T1 T2 HG HC
 have c3:=T3.out.cell
 go_upto_region 5 with(go_at_call 8;refine(HZ.out _ T3.out.b).mono ?_;rintro e w4 ⟨rfl,b4⟩)
 have T4:=Lib.hid (T3.out.below b4)
 clear b4 c3 T3 HZ
 have c4:=T4.out.cell
 go_upto_region 6 with(go_at_call 9;refine(HRE.out _ T4.out.b).mono ?_;rintro e w5 ⟨gr,or,nr,cr,rfl,hr0,hrc,b5⟩)
 have T5:=Lib.hid (T4.out.below b5)
 have hgr:=ahK w5 _ hrc
 clear b5 c4 T4 HRE
 have c5:=T5.out.cell
 go_upto_region 7 with(go_at_call 10;refine(HTX.out _ T5.out.b).mono ?_;rintro e w6 ⟨rfl,b6⟩)
 have T6:=Lib.hid (T5.out.below b6)
 have hrc6:w6.cell? ⟨gr,or,none⟩=some (.int .i64 0):=(b6.cell (p:=⟨gr,or,none⟩) hgr).trans hrc
 clear b6 c5 T5 HTX hrc hgr
 have hr0I:(0:Int)<(nr:Int):=by omega
 have hrb:((nr:Int)==0)=false:=by simp;omega
 go_upto_region 9 with fail
 clear hrc6 hr0I hrb hr0
 obtain⟨gF,oF,rfl,hgF,hrF⟩:=Bg HR.out (by rw[af4,HN.out];exact hn0)
 have HRF:=Lib.hid hrF
 clear hrF
 generalize hTX:jZ 0 Ds=tx at *
 have HTQ:=Lib.hid hTX
 clear hTX
 go_wp2_with fail
 go_loopg [10,11] n (λf s10 s11 wx=>∃i:Nat,s10=.int .i64 (acc size.jl (Ds.take i))/\s11=.int .i64 i/\i<=n/\f=n-i/\Bx w (.slice (some ⟨gF,oF,none⟩) n c) wx)
 case atStart=>exact⟨0,rfl,rfl,afb _,rfl,T6.out⟩
 case round=>
  obtain⟨i,rfl,rfl,hi,rfl,hbx⟩:=hrel
  have T7:=Lib.hid hbx
  have i0I:(0:Int)<=(i:Int):=afa _
  clear hbx
  rcases afp i n with hlt|hge
  ·have hltI:(i:Int)<(n:Int):=by omega
   obtain⟨D,hD⟩:∃D,Ds[i]? =some D:=⟨_,aeK (by rw[HN.out];exact hlt)⟩
   have hF:=HFC.out D (aeY hD)
   have HFD:=Lib.hid hF
   have hrng:=HRF.out i (FnD.cells D) (by rw[aeT,hD];rfl)
   have HRG:=Lib.hid (show ∀W,Below w.heap.size w W->W.rangeAt gF (oF+i*4) [.int .i64 D.p,.bool D.u,D.lv,D.bv]from λW hW=>vF hrng hgF hW)
   have HNX:=Lib.hid (show acc size.jl (Ds.take (i+1))=acc size.jl (Ds.take i)+(mW D:Nat)from by rw[ag6,hD,<-AO];exact Ip _ _ _)
   have hN0:=hF.n0
   have hN6:=hF.n6
   clear hF hrng
   obtain⟨S,hS⟩:∃S,acc size.jl (Ds.take i)=S:=⟨_,rfl⟩
   have HSB:=Lib.hid (show 0<=S/\S<=8000 from by
    obtain⟨s0,s1⟩:=P8 size.jl 1000 (Ds.take i) λx hx=>by
     have hm:=afW hx
     have:=HFC.out x hm
     rw[AO]
     have:=this.n6
     omega
    rw[afu]at s1
    rw[hS]at s0 s1
    omega)
   rw[hS]at HNX |-
   clear hS hD
   have c7:=T7.out.cell
   go_upto_region 14 with(first |(refine wpList_load_mid rfl 40 _ rfl gF (oF+i*4) rfl [.int .i64 D.p,.bool D.u,D.lv,D.bv] _ (HRG.out _ T7.out.b) Tryz.underlying40 rfl fnR ?_)|(go_at_call 11;refine(HFD.out.sz _ T7.out.b).mono ?_;rintro e w8 ⟨rfl,b8⟩))
   have T8:=Lib.hid (T7.out.below b8)
   clear b8 c7 T7
   have c8:=T8.out.cell
   go_upto_region 15 with(first |(refine wpList_load_mid rfl 40 _ rfl gF (oF+i*4) rfl [.int .i64 D.p,.bool D.u,D.lv,D.bv] _ (HRG.out _ T8.out.b) Tryz.underlying40 rfl fnR ?_)|(go_at_call 12;refine(HFD.out.pt _ T8.out.b).mono ?_;rintro e w9 ⟨sp,rfl,np⟩;obtain⟨Ap,cp,rfl,hrp⟩:=np.read (by decide) (a0G D)))
   have T9:=Lib.hid (T8.out.below np.2)
   have hpos:0<(FK D).length:=by rw[uY];exact hN0
   rw[uY]at *
   obtain⟨gp,op,rfl,hgp,hrp2⟩:=Bg hrp (by rw[uY];exact hN0)
   have HPT:=Lib.hid (λ(m:Nat) (hm:m<mW D)=>(show ∃b k,b<D.bs.length/\k<=iV D.bs b/\m=aQ D.bs b+k/\w9.rangeAt gp (op+m*2) [.int .i64 (b:Nat),.int .i64 (k:Nat)]from by
    obtain⟨b,k,hb,hk,rfl⟩:=a2w (N:=D.bs.length) hm
    exact⟨b,k,hb,hk,rfl,hrp2 _ _ (by unfold FK;rw[aeT,Ji hb hk];rfl)⟩))
   clear hrp hrp2 np hpos c8 T8
   have c9:=T9.out.cell
   go_upto_region 16 with(first |(refine wpList_load_mid rfl 40 _ rfl gF (oF+i*4) rfl [.int .i64 D.p,.bool D.u,D.lv,D.bv] _ (HRG.out _ T9.out.b) Tryz.underlying40 rfl fnR ?_)|(go_at_call 13;refine(HFD.out.rc _ T9.out.b).mono ?_;rintro e w10 ⟨Ab,cb,rfl,⟨gb,ob,rfl,hbc⟩,b10⟩))
   have T10:=Lib.hid (T9.out.below b10)
   have HW9:=Lib.hid (show Below w9.heap.size w9 w10 from b10)
   clear b10 c9 T9
   obtain⟨N,hN⟩:∃N,mW D=N:=⟨_,rfl⟩
   rw[hN]at HNX HPT hN0 hN6 |-
   have HNN:=Lib.hid hN
   clear hN
   have hNI:(0:Int)<(N:Int):=by omega
   have hNb:((N:Int)==0)=false:=by simp;omega
   go_upto_region 18 with fail
   clear hbc hNb
   go_wp2_with fail
   go_loopg [18,19] N (λf s18 s19 wx=>∃(m:Nat) (tl:Int),s18=.int .i64 tl/\s19=.int .i64 m/\m<=N/\f=N-m/\pW D m tl/\Below w10.heap.size w10 wx)
   case atStart=>exact⟨0,-1,rfl,rfl,afb _,rfl,pW.start D,ahE _ _⟩
   case round=>
    obtain⟨m,tl,rfl,rfl,hm,rfl,hlast,hbel⟩:=hrel
    have m0I:(0:Int)<=(m:Int):=afa _
    have HL:=Lib.hid hlast
    have HB:=Lib.hid hbel
    clear hlast hbel
    rcases afp m N with hml|hmg
    ·have hmlI:(m:Int)<(N:Int):=by omega
     obtain⟨b,k,hb,hk,hmk,hrng⟩:=HPT.out m hml
     have HRW:=Lib.hid (show ∀W,Below w10.heap.size w10 W->W.rangeAt gp (op+m*2) [.int .i64 (b:Nat),.int .i64 (k:Nat)]from λW hW=>vF hrng hgp (HW9.out.trans (hW.mono HW9.out.size)))
     have hgp:gp<w10.heap.size:=afe hgp HW9.out.size
     have T11:=Lib.hid (T10.out.below HB.out)
     have HMK:=Lib.hid hmk
     clear hrng hmk
     go_upto_region 22 with fail
     refine bH [⟨w.heap.size,0,none⟩,⟨gF,oF+i*4,none⟩,⟨gF,oF+i*4+1,none⟩,⟨gF,oF+i*4+2,none⟩,⟨gF,oF+i*4+3,none⟩,⟨gp,op+m*2,none⟩,⟨gp,op+m*2+1,none⟩] [(0,true),(1,true),(2,true),(3,true),(4,true),(5,true),(6,true),(7,true),(8,true),(9,false),(10,true),(11,true),(12,true),(13,true),(14,true)] (by kernel_rfl) (by kernel_rfl) (by decide) (by kernel_rfl) (λ_ _ _ _ _ h=>h) ?_
     have bc:wr.drew.cell? ⟨w.heap.size,0,none⟩=_:=T11.out.cell
     have f0:wr.drew.cell? ⟨gF,oF+i*4,none⟩=some (.int .i64 D.p):=HRG.out _ T11.out.b 0 _ rfl
     have f1:wr.drew.cell? ⟨gF,oF+i*4+1,none⟩=some (.bool D.u):=HRG.out _ T11.out.b 1 _ rfl
     have f2:wr.drew.cell? ⟨gF,oF+i*4+2,none⟩=some D.lv:=HRG.out _ T11.out.b 2 _ rfl
     have f3:wr.drew.cell? ⟨gF,oF+i*4+3,none⟩=some D.bv:=HRG.out _ T11.out.b 3 _ rfl
     have r0:wr.drew.cell? ⟨gp,op+m*2,none⟩=some (.int .i64 (b:Nat)):=HRW.out _ HB.out.drew 0 _ rfl
     have r1:wr.drew.cell? ⟨gp,op+m*2+1,none⟩=some (.int .i64 (k:Nat)):=HRW.out _ HB.out.drew 1 _ rfl
     iterate 9 (refine SeqC.take (v:=?_) rfl (by rfl) (λW hW=>?_) ?_;rotate_left;(focus(have z0:=hW.get (by simp) bc;have z1:=hW.get (by simp) f0;have z2:=hW.get (by simp) f1;have z3:=hW.get (by simp) f2;have z4:=hW.get (by simp) f3;have z5:=hW.get (by simp) r0;have z6:=hW.get (by simp) r1;go_simp;with_reducible rfl));simp only[Act.put,aeJ,aeP,aeO])
     refine SeqC.call (f:=?_) (args:=?_) rfl (by rfl) ?_ ?_
     rotate_left 2
     ·(go_simp;first |with_reducible rfl|(refine⟨?_,?_⟩<;>with_reducible rfl))
     refine(HFD.out.nm wr.drew T11.out.b.drew b k hb hk).mono ?_
     rintro e w12 ⟨rfl,b12⟩
     refine⟨_,rfl,Cells.nM b12 (by have h1:=T11.out.lt;have h2:=afe hgF T11.out.b.size;have h3:gp<wr.heap.size:=afe hgp HB.out.size;simp;omega),?_⟩
     simp only[Act.put,aeJ,aeP,aeO]
     iterate 5 (refine SeqC.take (v:=?_) rfl (by rfl) (λW hW=>?_) ?_;rotate_left;(focus(go_simp;with_reducible rfl));simp only[Act.put,aeJ,aeP,aeO])
     refine SeqC.done ?_
     rw[<-HMK.out]
     have T12:=Lib.hid ((show Bx w (.slice (some ⟨gF,oF,none⟩) n c) wr.drew from⟨T11.out.b.drew,T11.out.x⟩).below b12)
     have HB12:=Lib.hid (HB.out.drew.trans (b12.mono HB.out.drew.size))
     clear bc f0 f1 f2 f3 r0 r1 b12 T11 HB
     go_upto_region 23 with fail
     refine bH [⟨w.heap.size,0,none⟩,⟨gF,oF+i*4,none⟩,⟨gF,oF+i*4+1,none⟩,⟨gF,oF+i*4+2,none⟩,⟨gF,oF+i*4+3,none⟩,⟨gp,op+m*2,none⟩,⟨gp,op+m*2+1,none⟩] [(0,true),(1,true),(2,true),(3,true),(4,true),(5,true),(6,true),(7,true),(8,true),(9,false),(10,true),(11,true),(12,true),(13,true),(14,true)] (by kernel_rfl) (by kernel_rfl) (by decide) (by kernel_rfl) (λ_ _ _ _ _ h=>h) ?_
     have bc:w12.drew.cell? ⟨w.heap.size,0,none⟩=_:=T12.out.cell
     have f0:w12.drew.cell? ⟨gF,oF+i*4,none⟩=some (.int .i64 D.p):=HRG.out _ T12.out.b 0 _ rfl
     have f1:w12.drew.cell? ⟨gF,oF+i*4+1,none⟩=some (.bool D.u):=HRG.out _ T12.out.b 1 _ rfl
     have f2:w12.drew.cell? ⟨gF,oF+i*4+2,none⟩=some D.lv:=HRG.out _ T12.out.b 2 _ rfl
     have f3:w12.drew.cell? ⟨gF,oF+i*4+3,none⟩=some D.bv:=HRG.out _ T12.out.b 3 _ rfl
     have r0:w12.drew.cell? ⟨gp,op+m*2,none⟩=some (.int .i64 (b:Nat)):=HRW.out _ HB12.out.drew 0 _ rfl
     have r1:w12.drew.cell? ⟨gp,op+m*2+1,none⟩=some (.int .i64 (k:Nat)):=HRW.out _ HB12.out.drew 1 _ rfl
     iterate 9 (refine SeqC.take (v:=?_) rfl (by rfl) (λW hW=>?_) ?_;rotate_left;(focus(have z0:=hW.get (by simp) bc;have z1:=hW.get (by simp) f0;have z2:=hW.get (by simp) f1;have z3:=hW.get (by simp) f2;have z4:=hW.get (by simp) f3;have z5:=hW.get (by simp) r0;have z6:=hW.get (by simp) r1;go_simp;with_reducible rfl));simp only[Act.put,aeJ,aeP,aeO])
     refine SeqC.call (f:=?_) (args:=?_) rfl (by rfl) ?_ ?_
     rotate_left 2
     ·(go_simp;first |with_reducible rfl|(refine⟨?_,?_⟩<;>with_reducible rfl))
     refine(HFD.out.ln w12.drew T12.out.b.drew b k hb hk).mono ?_
     rintro e w13 ⟨rfl,b13⟩
     refine⟨_,rfl,Cells.nM b13 (by have h1:=T12.out.lt;have h2:=afe hgF T12.out.b.size;have h3:gp<w12.heap.size:=afe hgp HB12.out.size;simp;omega),?_⟩
     simp only[Act.put,aeJ,aeP,aeO]
     iterate 5 (refine SeqC.take (v:=?_) rfl (by rfl) (λW hW=>?_) ?_;rotate_left;(focus(go_simp;with_reducible rfl));simp only[Act.put,aeJ,aeP,aeO])
     refine SeqC.done ?_
     have HB13:=Lib.hid (HB12.out.drew.trans (b13.mono HB12.out.drew.size))
     clear bc f0 f1 f2 f3 r0 r1 b13 T12 HB12
     rw[show((aQ D.bs b:Nat):Int)+(k:Nat)=(m:Nat)by have:=HMK.out;omega]
     have hlt2:tl<((uh D b k:Nat):Int):=by have h1:=HL.out;rw[HMK.out]at h1;exact pW.lt hk h1
     have hd:decide (((uh D b k:Nat):Int)<=tl)=false:=af2 (by omega)
     have HNL:=Lib.hid (show pW D (m+1) ((uh D b k:Nat):Int)from by rw[HMK.out];exact pW.next hb hk)
     clear hlt2
     generalize uh D b k=tn at *
     go_wp2_with fail
     go_roundg (N-(m+1))
     case measure=>omega
     case rel=>exact⟨m+1,tn,rfl,by simp,by omega,rfl,HNL.out,HB13.out⟩
    ·obtain rfl:m=N:=by omega
     have hS0:=HSB.out.1
     have hS1:=HSB.out.2
     go_wp2_with fail
     go_roundg (n-(i+1))
     case measure=>omega
     case rel=>exact⟨i+1,by rw[HNX.out],by simp,by omega,rfl,T10.out.below HB.out⟩
  ·obtain rfl:i=n:=by omega
   rw[agQ (by rw[HN.out];exact aeM _)]
   change Code.wp _ _ _ _ _
   have hss:acc size.jl Ds=U6 Ds:=rfl
   rw[hss]
   generalize hSZ:U6 Ds=Z at *
   have HSZ:=Lib.hid hSZ
   clear hSZ hss
   have c7:=T7.out.cell
   go_upto_region 31 with(go_at_call 16;refine(HBY.out _ T7.out.b).mono ?_;rintro e w8 ⟨b8,⟨h5,rfl⟩|⟨h5,s,rfl,ho8⟩⟩)
   ·have T8:=Lib.hid (T7.out.below b8)
    clear b8 c7 h5
    go_wp2_with fail
    go_ret
    exact⟨rfl,T8.out.b⟩
   ·have T8:=Lib.hid (T7.out.below b8)
    obtain⟨A8,c8,rfl,hc8,_,hr8,_⟩:=Row.Em ho8
    have hvn:Vs.length=i:=by rw[<-C9 HCORE.out];exact HN.out
    have HD:=Lib.hid (a9q hr8 (VR HV.out (by omega)) hc8 h5 rfl HV.out (by omega) (by omega) λEs hEs=>by rw[qO (hEs.trans HCORE.out.symm)];exact HC0.out)
    clear ho8 hr8 hc8 b8 c7 h5 hvn
    generalize (pgB Vs).length=L at *
    go_upto_region 34 with(go_at_call 17;refine HD.out.mono ?_;rintro e w9 ⟨fq,Es,rfl,hq,hcq,b9⟩;obtain⟨A9,c9,e9,e9',_⟩:=hq.rows;subst e9')
    have hcc:Es.map FnD.core=Ds.map FnD.core:=hcq.trans HCORE.out.symm
    have hlen:Es.length=i:=by rw[C9 hcc];exact HN.out
    have hchk:jX Es=0:=by rw[qO hcc];exact HC0.out
    rw[hlen]at hq |-
    have b10:Below w9.heap.size w9 (w9.alloc (.cells #[.slice A9 i c9] tPr)):=(ahE _ w9).alloc (aeM _) _
    have T10:=Lib.hid ((T8.out.below b9).below b10)
    have HQ:=Lib.hid (hq.below b10)
    have q10:(w9.alloc (.cells #[.slice A9 i c9] tPr)).heap[w9.heap.size]? =some (.cells #[.slice A9 i c9] tPr (0,0)):=ay rfl
    have HQX:=Lib.hid q10
    have HCC:=Lib.hid hcc
    have HCH:=Lib.hid hchk
    have HLN:=Lib.hid hlen
    clear hcc hchk hlen hq hcq b9 b10 q10 T8 HD
    generalize w9.alloc (.cells #[.slice A9 i c9] tPr)=w10 at *
    generalize w9.heap.size=Y at *
    have c10:=T10.out.cell
    have d10:w10.cell? ⟨Y,0,none⟩=some (.slice A9 i c9):=by rw[Lib.cell_of_heap HQX.out];rfl
    have hY:Y<w10.heap.size:=(aeN.1 HQX.out).1
    have hS:=aec HQ.out (HP.out.below T10.out.b) HCC.out.symm (by rw[HLN.out];omega) (λD hD=>Oh (HQ.out.fn D hD) ((vI HCH.out).ok D hD))
    rw[HE.out]at hS
    have HS:=Lib.hid hS
    clear hS
    go_upto_region 36 with(go_at_call 18;refine HS.out.mono ?_;rintro e w11 ⟨rfl,b11⟩)
    have HQ11:=Lib.hid (HQ.out.below b11)
    have HB11:=Lib.hid (T10.out.b.trans (b11.mono T10.out.b.size))
    have HQX11:=Lib.hid ((b11.block Y hY).trans HQX.out)
    have d11:w11.cell? ⟨Y,0,none⟩=some (.slice A9 i c9):=by rw[Lib.cell_of_heap HQX11.out];rfl
    have hY11:Y<w11.heap.size:=afe hY b11.size
    clear b11 c10 d10 HS T10 HQ HQX
    have hT:=O9 HQ11.out (lD HKT.out HB11.out) HCH.out
    rw[zI HCC.out,HTQ.out]at hT
    have HT:=Lib.hid hT
    clear hT
    go_upto_region 37 with(go_at_call 10;refine HT.out.mono ?_;rintro e w12 ⟨rfl,b12⟩)
    have HQ12:=Lib.hid (HQ11.out.below b12)
    have HB12:=Lib.hid (HB11.out.trans (b12.mono HB11.out.size))
    have d12:w12.cell? ⟨Y,0,none⟩=some (.slice A9 i c9):=(b12.cell (p:=⟨Y,0,none⟩) hY11).trans d11
    clear b12 d11 HQ11 HT HB11
    have hZ:=a0y HQ12.out (vI HCH.out).ok (vI HCH.out).n8 (by have:=zQ HQ12.out;rwa[HCH.out]at this)
    rw[QL HCC.out,HSZ.out]at hZ
    have HZ2:=Lib.hid hZ
    clear hZ
    go_wp2_with (go_at_call 8;refine HZ2.out.mono ?_;rintro e w13 ⟨rfl,b13⟩)
    go_ret
    exact⟨rfl,HB12.out.trans (b13.mono HB12.out.size)⟩
theorem Yx {w:World}{v fv:Value}{Ds:List FnD}(h:dS w v fv Ds)(kt:iq w):Calls Tryz.prog 3 #[v] w (bld.Ans w (.bool true)):=by
 cases hg:yg Ds with
 |true=>exact SX h kt hg
 |false=>
  by_cases hc:jX Ds=0
  ·exact Zv h kt hg hc
  ·exact a2p h kt hg hc
