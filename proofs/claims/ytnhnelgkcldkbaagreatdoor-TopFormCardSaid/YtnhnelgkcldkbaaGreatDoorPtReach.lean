/- graph.all and graph.Points. -/
import Derived.Test.YtnhnelgkcldkbaaGreatDoorPtCheck
set_option linter.all false
set_option maxHeartbeats 8000000
set_option maxRecDepth 100000
open List renaming replicate → aia, map_replicate → aib
namespace Go.Proofs.YtnhnelgkcldkbaaGreatDoor
namespace loan
open Go.RowKit Am
abbrev tF:TypeId:=40
abbrev tP:TypeId:=49
theorem ptR:(Tryz.prog.info? 49).map (λi=>(i.zero,i.size,i.bytes))=some (some (.agg #[.int .i64 0,.int .i64 0]),2,16):=by kernel_rfl
def a7S (t:TypeId)(sz:Nat)(els:List (List Value))(W:World)(s:Value)(W':World):Prop:=W'.ownsRow W.heap.size t sz s els.length els.flatten/\Below W.heap.size W W'
theorem a8x {w:World}{v:Value}{D:FnD}(h:aZ w v D)(hn:D.bs.length<=24)(hs:∀b∈D.bs,b.st.length<=24):
  Calls Tryz.prog 48 #[v] w λe w'=>∃s,e=.returned s/\a7S tP 2 ((rW D.bs D.bs.length).map ptV) w s w':=by
 have HF:=Lib.hid h
 obtain⟨A,c,e,hm,hr⟩:=aZ.blks h
 rw[h.eq,e]
 have HR:=Lib.hid hr
 have HS:=Lib.hid hs
 clear h hr hs e
 obtain⟨w1,hw1⟩:∃w1,w1=w.alloc (.cells #[.int .i64 D.p,.bool D.u,D.lv,.slice A D.bs.length c] tF):=⟨_,rfl⟩
 have B0:Box w1 w.heap.size tF (.int .i64 D.p) (.bool D.u) D.lv (.slice A D.bs.length c):=by rw[hw1];exact Box.mk rfl
 have b0:Below w.heap.size w w1:=by rw[hw1];exact(ahE _ _).alloc (aeM _) _
 have s1:w1.heap.size=w.heap.size+1:=by rw[hw1];simp
 obtain⟨y0,y1,y2,y3⟩:=B0.cells
 have HB0:=Lib.hid B0
 go_enter Tryz.func48,Tryz.ntmps48
 go_wp2
 go_loopg [3,9] D.bs.length (λg s3 s9 wr=>∃i:Nat,s9=.int .i64 i/\i<=D.bs.length/\g=D.bs.length-i/\wr.ownsRow w1.heap.size tP 2 s3 (aQ D.bs i) ((rW D.bs i).map ptV).flatten/\Below w1.heap.size w1 wr)
 case atStart=>exact⟨0,rfl,afb _,rfl,ahT _ _ _ _,(by rw[<-hw1];exact ahE _ _)⟩
 case round=>
  obtain⟨i,rfl,hi,rfl,hown,hbel⟩:=hrel
  obtain⟨t0,t1,t2,t3⟩:=(HB0.out.below hbel).cells
  have hbw:Below w.heap.size w wr:=b0.trans (hbel.mono b0.size)
  rcases afp i D.bs.length with hlt|hge
  ·have hltI:(i:Int)<(D.bs.length:Int):=by omega
   have h0I:(0:Int)<=(i:Int):=afa _
   obtain⟨b,hb⟩:∃b,D.bs[i]? =some b:=⟨_,aeK hlt⟩
   obtain⟨As,cs,es,hms,_⟩:=jV.KD (HF.out.blk b (aeY hb))
   obtain⟨gb,ob,eA,hgb,hcb⟩:=(HR.out.below hbw) i b.cells (by rw[aeT,hb];rfl)
   subst eA
   have cg:=hcb 0 b.s rfl
   rw[es]at cg
   simp only[afS]at cg
   have h24:=HS.out b (aeY hb)
   have hl:=BP hb
   have hst:=D9 (FZ HS.out) i
   rw[<-VO]at hown
   have HO:=Lib.hid hown
   have HB:=Lib.hid hbel
   have HL:=Lib.hid hl
   clear hown hbel hcb hb es hl
   go_wp2
   go_loopg [3,20] (b.st.length+1) (λg s3 s20 wx=>∃k:Nat,s20=.int .i64 k/\k<=b.st.length+1/\g=b.st.length+1-k/\wx.ownsRow w1.heap.size tP 2 s3 (aQ D.bs i+k) ((CO D.bs i k).map ptV).flatten/\Below w1.heap.size w1 wx)
   case atStart=>exact⟨0,rfl,afb _,rfl,HO.out,HB.out⟩
   case round=>
    clear HO HB t0 t1 t2 t3 cg
    obtain⟨k,rfl,hk,rfl,hown,hbel⟩:=hrel
    have hsz:=hbel.size
    rcases afp k (b.st.length+1)with hkl|hkg
    ·have hklI:(k:Int)<(b.st.length:Int)+1:=by omega
     have h0K:(0:Int)<=(k:Int):=afa _
     go_wp2_with (at_builtin;refine rH rfl _ _ 41 rfl w1.heap.size tP (.agg #[.int .i64 0,.int .i64 0]) 2 16 Tryz.underlying41 ptR rfl (by decide) _ _ _ rfl (hown.alloc _) [.int .i64 i,.int .i64 k] _ 1 rfl (ay rfl) rfl (by simp[Value.oneCell']) (by omega) (by omega) (hbel.alloc hsz _) (by simp;omega) ?_;intro v1 w2 hown1 hbel1)
     go_roundg (b.st.length+1-(k+1))
     case measure=>omega
     case rel=>exact⟨k+1,by simp,by omega,rfl,by rw[at_next,afX,ah3];simpa[ptV,afZ]using hown1,hbel1⟩
    ·obtain rfl:k=b.st.length+1:=by omega
     rw[<-HL.out,a7i,VO]at hown
     go_wp2
     go_roundg (D.bs.length-(i+1))
     case measure=>omega
     case rel=>exact⟨i+1,by simp,by omega,rfl,hown,hbel⟩
  ·obtain rfl:i=D.bs.length:=by omega
   go_wp2
   go_ret
   exact⟨_,rfl,DN (by rw[af4,zT];exact hown) b0.size,hbw⟩
def Xm (w:World)(v:Value)(x:Int):Prop:=∀w1,Below w.heap.size w w1->Calls Tryz.prog 47 #[v] w1 λe w'=>e=.returned (.int .i64 x)/\Below w1.heap.size w1 w'
structure Small (D:FnD):Prop where
 n:D.bs.length<=24
 s:∀b∈D.bs,b.st.length<=24
theorem Small.start {D:FnD}(h:Small D){i:Nat}(hi:i<=D.bs.length):aQ D.bs i<=600:=by
 have:=D9 (FZ h.s) i
 have:=h.n
 omega
def abn (t:TypeId)(sz:Nat)(els:List (List Value))(W:World)(e:Ending)(W':World):Prop:=∃s,e=.returned (.tuple #[s,.int .i64 0])/\a7S t sz els W s W'
def FK (D:FnD):List (List Value):=(rW D.bs D.bs.length).map ptV
def mW (D:FnD):Nat:=aQ D.bs D.bs.length
theorem uY (D:FnD):(FK D).length=mW D:=by unfold FK;rw[af4,zT];rfl
theorem a0G (D:FnD):∀x∈FK D,x.length=2:=λx hx=>by
 obtain⟨p,_,rfl⟩:=afo.1 hx
 rfl
theorem a7S.read {t:TypeId}{sz:Nat}{els:List (List Value)}{W W':World}{s:Value}(h:a7S t sz els W s W')(hz:0<sz)(hl:∀x∈els,x.length=sz):∃A c,s=.slice A els.length c/\dR W' A sz els:=dR.own h.1 rfl hz hl
theorem a0n {w:World}{v:Value}{D:FnD}(h:aZ w v D)(hs:Small D)(hC:Xm w v 0):Calls Tryz.prog 12 #[v] w (abn tP 2 (FK D) w):=by
 have hA:=λw1 (hb:Below w.heap.size w w1)=>a8x (h.frz hb.block) hs.n hs.s
 unfold Xm at hC
 rw[h.eq]at hC hA |-
 have B0:Box (w.alloc (.cells #[.int .i64 D.p,.bool D.u,D.lv,D.bv] tF)) w.heap.size tF (.int .i64 D.p) (.bool D.u) D.lv D.bv:=Box.mk rfl
 have b0:Below w.heap.size w (w.alloc (.cells #[.int .i64 D.p,.bool D.u,D.lv,D.bv] tF)):=(ahE _ _).alloc (aeM _) _
 have HC:=Lib.hid hC
 have HA:=Lib.hid hA
 clear hC hA h
 go_enter Tryz.func12,Tryz.ntmps12
 go_wp2_with (first |(go_at_call 47;refine(HC.out _ b0).mono ?_;rintro e w1 ⟨rfl,b1⟩;obtain⟨y0,y1,y2,y3⟩:=(B0.below b1).cells)|(go_at_call 48;refine(HA.out _ (b0.trans (b1.mono b0.size))).mono ?_;rintro e w2 ⟨s,rfl,hown,b2⟩))
 go_ret2
 have b01:=b0.trans (b1.mono b0.size)
 exact⟨_,rfl,DN hown b01.size,b01.trans (b2.mono b01.size)⟩
end loan
namespace prg
open Go.RowKit Am loan bld
def orI (x y:Int):Int:=if x=0 then y else x
theorem adY {w:World}{g:Nat}{x y:Int}{t:TypeId}(hg:w.heap[g]? =some (.cells #[.int .i64 x,.int .i64 y] t (0,0))):Calls Tryz.prog 108 #[.slice (some ⟨g,0,none⟩) 2 2] w (λe w'=>e=.returned (.int .i64 (orI x y))/\w'=w):=by
 have c0:w.cell? ⟨g,0,none⟩=some (.int .i64 x):=by rw[Lib.cell_of_heap hg];rfl
 have c1:w.cell? ⟨g,1,none⟩=some (.int .i64 y):=by rw[Lib.cell_of_heap hg];rfl
 clear hg
 generalize hz:orI x y=z
 unfold orI at hz
 have HZ:=Lib.hid hz
 clear hz
 go_enter Tryz.func108,Tryz.ntmps108
 go_wp2_with fail
 go_loopg [8] 2 (λg s8 wr=>∃i:Nat,s8=.int .i64 i/\i<=2/\g=2-i/\wr=w/\(0<i->x=0)/\(1<i->y=0))
 case atStart=>exact⟨0,rfl,by decide,rfl,rfl,λh=>absurd h (by decide),λh=>absurd h (by decide)⟩
 case round=>
  obtain⟨i,rfl,hi,rfl,rfl,hx,hy⟩:=hrel
  obtain rfl|rfl|rfl:i=0\/i=1\/i=2:=by omega
  ·clear hx hy
   by_cases h:x=0
   ·have hb:(x != 0)=false:=by simp[h]
    go_wp2_with fail
    go_roundg 1
    case measure=>decide
    case rel=>exact⟨1,rfl,by decide,rfl,rfl,λ_=>h,λh=>absurd h (by decide)⟩
   ·have hb:(x != 0)=true:=by simp[h]
    have e:=HZ.out
    rw[afc h]at e
    go_wp2_with fail
    go_ret
    exact⟨rfl,rfl⟩
  ·have h0:=hx (by decide)
   have e:=HZ.out
   rw[afm h0]at e
   have H0:=Lib.hid h0
   clear hx hy h0
   by_cases h:y=0
   ·have hb:(y != 0)=false:=by simp[h]
    go_wp2_with fail
    go_roundg 0
    case measure=>decide
    case rel=>exact⟨2,rfl,by decide,rfl,rfl,λ_=>H0.out,λ_=>h⟩
   ·have hb:(y != 0)=true:=by simp[h]
    go_wp2_with fail
    go_ret
    exact⟨rfl,rfl⟩
  ·have h0:=hx (by decide)
   have h1:=hy (by decide)
   have e:=HZ.out
   rw[afm h0,h1]at e
   have HE:=Lib.hid e
   clear hx hy h0 h1 e
   go_wp2_with fail
   go_ret
   exact⟨by rw[<-HE.out];rfl,rfl⟩
theorem a6b {w:World}{x y z t:Int}(x0:0<=x)(x1:x<=1000)(y0:0<=y)(y1:y<=1000)(z0:0<=z)(z1:z<=1000)(t0:0<=t)(t1:t<=1000):
  Calls Tryz.prog 52 #[.agg #[.int .i64 x,.int .i64 y],.agg #[.int .i64 z,.int .i64 t]] w (bld.Ans w (.int .i64 (GZ x y z t))):=by
 go_enter Tryz.func52,Tryz.ntmps52
 go_wp2_with (go_at_call 108;refine(adY (x:=x-z) (y:=y-t) (ay (by simp))).mono ?_;rintro e w9 ⟨rfl,rfl⟩)
 go_ret
 exact⟨rfl,(((ahE _ _).alloc (aeM _) _).alloc (by simp) _).alloc (by simp;omega) _⟩
theorem adr {w:World}{A:Option Addr}{c:Nat}{D:FnD}(hr:dR w A 2 (FK D))(hs:Small D){b i:Nat}(hb:b<D.bs.length)(hi:i<=iV D.bs b):
  Calls Tryz.prog 51 #[.slice A (mW D) c,.agg #[.int .i64 (b:Nat),.int .i64 (i:Nat)],.func (.func 52) #[] #[]] w (bld.Ans w (.tuple #[.int .i64 ((aQ D.bs b+i:Nat):Int),.bool true])):=by
 have hn:aQ D.bs b+i<mW D:=adp hb hi
 have h6:mW D<=600:=hs.start (aeM _)
 have h24:=hs.n
 have hl24:=FZ hs.s
 obtain⟨g,o,rfl,hg,hrg⟩:=Bg hr (by rw[uY];omega)
 have HP:=Lib.hid (λ(m:Nat) (hm:m<mW D)=>(show ∃a k,a<D.bs.length/\k<=iV D.bs a/\m=aQ D.bs a+k/\w.rangeAt g (o+m*2) [.int .i64 (a:Nat),.int .i64 (k:Nat)]from by
  obtain⟨a,k,ha,hk,rfl⟩:=a2w (N:=D.bs.length) hm
  exact⟨a,k,ha,hk,rfl,hrg _ _ (by unfold FK;rw[aeT,Ji ha hk];rfl)⟩))
 have HL:=Lib.hid (λ(a k:Nat) (hk:k<=iV D.bs a) (h:aQ D.bs a+k<aQ D.bs b+i)=>a18 hk hi h)
 have HM:=Lib.hid (λ(a k:Nat) (hk:k<=iV D.bs a) (h:aQ D.bs b+i<=aQ D.bs a+k)=>a7g hk hi h)
 have hl1:=hl24 b
 have HE:=Lib.hid (λ(a k:Nat) (ha:a<D.bs.length) (hk:k<=iV D.bs a) (e:aQ D.bs a+k=aQ D.bs b+i)=>(show a=b/\k=i from by
  have e1:=Ji (bs:=D.bs) ha hk
  rw[e,Ji hb hi]at e1
  simpa[eq_comm]using e1))
 have HC:=Lib.hid (λ(W:World) (a k:Nat) (ha:a<D.bs.length) (hk:k<=iV D.bs a)=>a6b (w:=W) (x:=(a:Nat)) (y:=(k:Nat)) (z:=(b:Nat)) (t:=(i:Nat)) (by omega) (by omega) (by omega) (by have:=hl24 a;omega) (by omega) (by omega) (by omega) (by omega))
 clear hr hrg hs hi hb hl24 hl1 h24
 generalize mW D=n at *
 generalize hT:aQ D.bs b+i=T at *
 obtain⟨w1,hw1⟩:∃w1,w1=w.alloc (.cells #[.int .i64 (b:Nat),.int .i64 (i:Nat)] tP):=⟨_,rfl⟩
 have bw:Below w.heap.size w w1:=by rw[hw1];exact(ahE _ w).alloc (aeM _) _
 have P1:w1.heap[w.heap.size]? =some (.cells #[.int .i64 (b:Nat),.int .i64 (i:Nat)] tP (0,0)):=by rw[hw1];exact ay rfl
 have hs1:w.heap.size<w1.heap.size:=(aeN.1 P1).1
 have HB:=Lib.hid bw
 have HQ:=Lib.hid P1
 have HT:=Lib.hid hT
 clear bw P1 hT
 go_enter Tryz.func51,Tryz.ntmps51
 go_wp2_with fail
 go_loopg [9,10] n (λf s9 s10 wr=>∃p q:Nat,s9=.int .i64 p/\s10=.int .i64 q/\p<=T/\T<=q/\q<=n/\f=q-p/\Below w1.heap.size w1 wr)
 case atStart=>exact⟨0,n,rfl,rfl,afb _,by omega,aeM _,rfl,by rw[<-hw1];exact ahE _ _⟩
 case round=>
  obtain⟨p,q,rfl,rfl,hp,hq,hqn,rfl,hbel⟩:=hrel
  have HX:=Lib.hid hbel
  have P2:=(hbel.block _ hs1).trans HQ.out
  have hws:w.heap.size<wr.heap.size:=afe hs1 hbel.size
  have hgw:g<wr.heap.size:=afe (ah5 hg hs1) hbel.size
  have b0:wr.cell? ⟨w.heap.size,0,none⟩=some (.int .i64 (b:Nat)):=by rw[Lib.cell_of_heap P2];rfl
  have b1:wr.cell? ⟨w.heap.size,1,none⟩=some (.int .i64 (i:Nat)):=by rw[Lib.cell_of_heap P2];rfl
  have HW:=Lib.hid (HB.out.trans (hbel.mono (afk hs1)))
  clear hbel P2
  rcases afp p q with hlt|hge
  ·have hltI:(p:Int)<(q:Int):=by omega
   have p0I:(0:Int)<=(p:Int):=afa _
   obtain⟨a,k,ha,hk,he,hrng0⟩:=HP.out ((p+q)/2) (by omega)
   have hrng:=vF hrng0 hg HW.out
   have HCa:=Lib.hid (λW=>HC.out W a k ha hk)
   have r0:wr.cell? ⟨g,o+(p+q)/2*2,none⟩=some (.int .i64 (a:Nat)):=hrng 0 _ rfl
   have r1:wr.cell? ⟨g,o+(p+q)/2*2+1,none⟩=some (.int .i64 (k:Nat)):=hrng 1 _ rfl
   have HK:=Lib.hid (show a<D.bs.length/\k<=iV D.bs a/\(p+q)/2=aQ D.bs a+k from⟨ha,hk,he⟩)
   clear hrng hrng0 ha hk he
   have hm:(p+q)/2<n:=by omega
   have hp2:p<=(p+q)/2:=by omega
   have hq2:(p+q)/2<q:=by omega
   go_upto_region 5 with fail
   rw[show((p:Int)+(q:Int))/2=(((p+q)/2:Nat):Int)by omega]
   generalize (p+q)/2=m at *
   have hmI:(m:Int)<(n:Int):=by omega
   have m0:(0:Int)<=(m:Int):=afa _
   refine bH [⟨g,o+m*2,none⟩,⟨g,o+m*2+1,none⟩,⟨w.heap.size,0,none⟩,⟨w.heap.size,1,none⟩] [(0,true),(1,true),(2,true),(3,true),(4,true),(5,true),(6,false),(7,true)] (by kernel_rfl) (by kernel_rfl) (by decide) (by kernel_rfl) (λ_ _ _ _ _ h=>h) ?_
   have r0:wr.drew.cell? ⟨g,o+m*2,none⟩=_:=r0
   have r1:wr.drew.cell? ⟨g,o+m*2+1,none⟩=_:=r1
   have b0:wr.drew.cell? ⟨w.heap.size,0,none⟩=_:=b0
   have b1:wr.drew.cell? ⟨w.heap.size,1,none⟩=_:=b1
   iterate 6 (refine SeqC.take (v:=?_) rfl (by rfl) (λW hW=>?_) ?_;rotate_left;(focus(have z0:=hW.get (by simp) r0;have z1:=hW.get (by simp) r1;have z2:=hW.get (by simp) b0;have z3:=hW.get (by simp) b1;go_simp;with_reducible rfl));simp only[Act.put,aeJ,aeP,aeO])
   refine SeqC.call (f:=?_) (args:=?_) rfl (by rfl) ?_ ?_
   rotate_left 2
   ·(go_simp;first |with_reducible rfl|(refine⟨?_,?_⟩<;>with_reducible rfl))
   refine(HCa.out wr.drew).mono ?_
   rintro e w5 ⟨rfl,b5⟩
   refine⟨_,rfl,Cells.nM b5 (by simp;exact⟨hgw,hws⟩),?_⟩
   simp only[Act.put,aeJ,aeP,aeO]
   refine SeqC.take (v:=?_) rfl (by rfl) (λW hW=>?_) ?_;rotate_left;(focus(go_simp;with_reducible rfl));simp only[Act.put,aeJ,aeP,aeO]
   refine SeqC.done ?_
   have HX2:=Lib.hid ((HX.out.drew).trans (b5.mono HX.out.size))
   clear b5 r0 r1 b0 b1
   by_cases hc:m<T
   ·have hv:=HL.out a k HK.out.2.1 (by rw[<-HK.out.2.2];exact hc)
    have hd:decide (GZ (a:Nat) (k:Nat) (b:Nat) (i:Nat)<0)=true:=afn hv
    generalize GZ (a:Nat) (k:Nat) (b:Nat) (i:Nat)=V at *
    go_wp2_with fail
    go_roundg (q-(m+1))
    case measure=>omega
    case rel=>exact⟨m+1,q,by simp,rfl,by omega,hq,hqn,rfl,HX2.out⟩
   ·have hv:=HM.out a k HK.out.2.1 (by rw[<-HK.out.2.2];omega)
    have hd:decide (GZ (a:Nat) (k:Nat) (b:Nat) (i:Nat)<0)=false:=af2 (by omega)
    generalize GZ (a:Nat) (k:Nat) (b:Nat) (i:Nat)=V at *
    go_wp2_with fail
    go_roundg (m-p)
    case measure=>omega
    case rel=>exact⟨p,m,rfl,rfl,hp,by omega,by omega,rfl,HX2.out⟩
  ·obtain rfl:p=T:=by omega
   obtain rfl:q=p:=by omega
   have hpI:(q:Int)<(n:Int):=by omega
   have p0I:(0:Int)<=(q:Int):=afa _
   obtain⟨a,k,ha,hk,he,hrng0⟩:=HP.out q hn
   obtain⟨rfl,rfl⟩:=HE.out a k ha hk he.symm
   have hrng:=vF hrng0 hg HW.out
   have HCa:=Lib.hid (λW=>HC.out W a k ha hk)
   rw[a1D]at HCa
   have r0:wr.cell? ⟨g,o+q*2,none⟩=some (.int .i64 (a:Nat)):=hrng 0 _ rfl
   have r1:wr.cell? ⟨g,o+q*2+1,none⟩=some (.int .i64 (k:Nat)):=hrng 1 _ rfl
   clear hrng hrng0 ha hk he
   go_upto_region 8 with fail
   refine bH [⟨g,o+q*2,none⟩,⟨g,o+q*2+1,none⟩,⟨w.heap.size,0,none⟩,⟨w.heap.size,1,none⟩] [(0,true),(1,true),(2,true),(3,true),(4,true),(5,true),(6,true),(7,true),(8,true),(9,true),(10,true),(11,false),(12,true),(13,true),(14,true),(15,true)] (by kernel_rfl) (by kernel_rfl) (by decide) (by kernel_rfl) (λ_ _ _ _ _ h=>h) ?_
   have r0:wr.drew.cell? ⟨g,o+q*2,none⟩=_:=r0
   have r1:wr.drew.cell? ⟨g,o+q*2+1,none⟩=_:=r1
   have b0:wr.drew.cell? ⟨w.heap.size,0,none⟩=_:=b0
   have b1:wr.drew.cell? ⟨w.heap.size,1,none⟩=_:=b1
   iterate 11 (refine SeqC.take (v:=?_) rfl (by rfl) (λW hW=>?_) ?_;rotate_left;(focus(have z0:=hW.get (by simp) r0;have z1:=hW.get (by simp) r1;have z2:=hW.get (by simp) b0;have z3:=hW.get (by simp) b1;go_simp;with_reducible rfl));simp only[Act.put,aeJ,aeP,aeO])
   refine SeqC.call (f:=?_) (args:=?_) rfl (by rfl) ?_ ?_
   rotate_left 2
   ·(go_simp;first |with_reducible rfl|(refine⟨?_,?_⟩<;>with_reducible rfl))
   refine(HCa.out wr.drew).mono ?_
   rintro e w5 ⟨rfl,b5⟩
   refine⟨_,rfl,Cells.nM b5 (by simp;exact⟨hgw,hws⟩),?_⟩
   simp only[Act.put,aeJ,aeP,aeO]
   iterate 4 (refine SeqC.take (v:=?_) rfl (by rfl) (λW hW=>?_) ?_;rotate_left;(focus(go_simp;with_reducible rfl));simp only[Act.put,aeJ,aeP,aeO])
   refine SeqC.done ?_
   go_wp2_with fail
   go_ret2
   exact⟨rfl,(HW.out.drew).trans (b5.mono HW.out.size)⟩
theorem boR:(Tryz.prog.info? 4).map (λi=>(i.zero,i.size,i.bytes))=some (some (.bool false),1,1):=by kernel_rfl
theorem inR:(Tryz.prog.info? 3).map (λi=>(i.zero,i.size,i.bytes))=some (some (.int .i64 0),1,8):=by kernel_rfl
def unB (bits:List Bool):Nat:=(bits.filter λb=>!b).length
theorem O5:∀{bits:List Bool} {i:Nat},bits[i]? =some false->unB (bits.set i true)+1=unB bits
 |[],i,h=>by simp at h
 |b::l,0,h=>by
  obtain rfl:b=false:=by simpa using h
  simp[unB]
 |b::l,i+1,h=>by
  have:=O5 (bits:=l) (i:=i) (by simpa using h)
  cases b<;>simp[unB]at this |- <;>omega
structure RI (w1:World)(X n:Nat)(Av:Nat->Prop)(wr:World)(bits:List Bool)(v:Value)(xs:List Int):Prop where
 bel:Below X w1 wr
 own:wr.ownsRow X 4 1 (.slice (some ⟨X,0,none⟩) n n) n (bits.map Value.bool)
 len:bits.length=n
 one:bits[0]? =some true
 que:Que wr Av v xs
 lim:∀x∈xs,∃c:Nat,x=c/\c<n
section
variable {w1 wr W w':World} {X n:Nat} {Av Av':Nat->Prop} {bits:List Bool} {v v':Value} {xs:List Int}
theorem RI.lt (h:RI w1 X n Av wr bits v xs):X<wr.heap.size:=(h.own.lt X rfl).2
theorem RI.avoid (h:RI w1 X n Av wr bits v xs)(hA:∀k,k<wr.heap.size->Av' k->Av k):RI w1 X n Av' wr bits v xs:=⟨h.bel,h.own,h.len,h.one,h.que.avoid hA,h.lim⟩
theorem a2I {t:TypeId}{l:List Value}(h:wr.ownsRow X t 1 (.slice (some ⟨X,0,none⟩) n n) n l)(hk:w'.heap[X]? =wr.heap[X]?):w'.ownsRow X t 1 (.slice (some ⟨X,0,none⟩) n n) n l:=by
 refine⟨h.1,h.2.imp id λ⟨g,cap,cur,e,hb,hg,r⟩=>⟨g,cap,cur,e,hb,?_,r⟩⟩
 obtain rfl:X=g:=by cases e;rfl
 exact hk.trans hg
theorem RI.below (h:RI w1 X n Av wr bits v xs)(hb:Below wr.heap.size wr w'):RI w1 X n Av w' bits v xs:=
 ⟨h.bel.trans (hb.mono (afk h.lt)),a2I h.own (hb.block X h.lt),h.len,h.one,h.que.below hb,h.lim⟩
theorem RI.put (h:RI w1 X n Av wr bits v xs)(hA:Av X)(c:Nat):RI w1 X n Av (wr.setCell ⟨X,c,none⟩ (.bool true)) (bits.set c true) v xs:=
 ⟨h.bel.setCell (p:=⟨X,c,none⟩) (aeM X) _,by rw[List.map_set];exact(h.own.stored c (.bool true)).1,by rw[List.length_set];exact h.len,by
  by_cases hc:c=0
  ·subst hc;rw[List.getElem?_set_self (by have:=(aeU.1 h.one).1;exact this)]
  ·rw[List.getElem?_set_ne hc];exact h.one,h.que.keep λk hk _=>ai3 wr _ _ k λe=>hk (by have e:k=X:=e;rw[e];exact hA),h.lim⟩
theorem RI.push {c:Nat}(h:RI w1 X n Av W bits v xs)(hk:Ea Av W w')(hA:∀k,k<=X->Av k)(hq:Que w' Av v' (xs++[(c:Int)]))(hc:c<n):RI w1 X n Av w' bits v' (xs++[(c:Int)]):=
 ⟨h.bel.trans (hk.below (afk h.lt) λk hk=>hA k (afk hk)),a2I h.own (hk.block X (hA X (aeM X)) h.lt),h.len,h.one,hq,λx hx=>by
  rcases afl.1 hx with hx|hx
  ·exact h.lim x hx
  ·exact⟨c,by simpa using hx,hc⟩⟩
end
def V9 (D:FnD)(w:World)(e:Ending)(w':World):Prop:=∃A c,e=.returned (.tuple #[.slice A (mW D) c,.int .i64 0])/\(∃g o,A=some ⟨g,o,none⟩/\w'.cell? ⟨g,o,none⟩=some (.bool true))/\Below w.heap.size w w'
theorem Xu:∀n,unB (aia n false)=n
 |0=>rfl
 |n+1=>by have:=Xu n;unfold unB at this |-;rw[List.replicate_succ];simp
theorem UE {w:World}{g o:Nat}{x:bU}(h:w.rangeAt g o x.cells):w.rangeAt g (o+1) (x.pre++x.a::x.post):=λj u hj=>by
 have:=h (j+1) u hj
 rw[<-this,afZ,ags 1 j]
theorem RN {w:World}{v:Value}{D:FnD}(h:aZ w v D)(hs:Small D):Calls Tryz.prog 48 #[v] w λe w'=>∃A c,e=.returned (.slice A (mW D) c)/\dR w' A 2 (FK D)/\Below w.heap.size w w':=by
 refine(a8x h hs.n hs.s).mono ?_
 rintro e w' ⟨s,rfl,hnew⟩
 obtain⟨A,c,rfl,hr⟩:=hnew.read (by decide) (a0G D)
 exact⟨A,c,by rw[<-uY];rfl,hr,hnew.2⟩
theorem a6Z {w:World}{v:Value}{D:FnD}(h:aZ w v D)(hs:Small D)(hC:Xm w v 0)(h0:0<D.bs.length)(tg:bU->List Int)(hT:∀x∈D.bs,∀W,Below w.heap.size w W->Calls Tryz.prog 49 #[.agg (x.pre++x.a::x.post).toArray] W (aaK (tg x) W))(ht:∀x∈D.bs,(tg x).length<=2/\∀t∈tg x,∃c:Nat,t=c/\c<D.bs.length):
  Calls Tryz.prog 13 #[v] w (V9 D w):=by
 have HAL:=Lib.hid (λ(W:World) (hW:Below w.heap.size w W)=>RN (h.frz hW.block) hs)
 have HF:=Lib.hid h
 obtain⟨A,c,e,hm,hr⟩:=aZ.blks h
 have h24:=hs.n
 have hpos:0<mW D:=afe (afe h0 (aeM _)) (Ie (bs:=D.bs) D.bs.length)
 have h600:mW D<=600:=hs.start (aeM _)
 have HS:=Lib.hid hs
 unfold Xm at hC
 rw[h.eq,e]at hC HAL |-
 have HR:=Lib.hid hr
 have HT:=Lib.hid hT
 have HL:=Lib.hid ht
 have HC:=Lib.hid hC
 clear h hr e hC hT ht hs hm
 generalize hn:D.bs.length=n at *
 have HN:=Lib.hid hn
 clear hn
 have b0:Below w.heap.size w (w.alloc (.cells #[.int .i64 D.p,.bool D.u,D.lv,.slice A n c] tF)):=(ahE _ w).alloc (aeM _) _
 have B0:Box (w.alloc (.cells #[.int .i64 D.p,.bool D.u,D.lv,.slice A n c] tF)) w.heap.size tF (.int .i64 D.p) (.bool D.u) D.lv (.slice A n c):=Box.mk rfl
 have n0I:(0:Int)<(n:Int):=by omega
 obtain⟨iB,hiB,hzB,hsB,hbB⟩:=ahS boR
 go_enter Tryz.func13,Tryz.ntmps13
 go_upto_region 4 with(go_at_call 47;refine(HC.out _ b0).mono ?_;rintro e w1 ⟨rfl,b1⟩)
 have HB1:=Lib.hid (b0.trans (b1.mono b0.size))
 have HX1:=Lib.hid (B0.below b1)
 obtain⟨y0,y1,y2,y3⟩:=HX1.out.cells
 clear b0 B0 b1
 go_upto_region 5 with(at_make;refine wpList_make_full _ rfl _ _ 44 rfl w1.heap.size 4 iB (.bool false) 1 Tryz.underlying44 hiB hzB hsB .i64 .i64 _ _ n rfl rfl rfl rfl (by rw[hbB];omega) (by simp[maxLen];omega) (aeM _) ?_;intro w2 hown2 hgrow2)
 have e2:(madeCells (Value.bool false).cells (n*1)).toList=(aia n false).map Value.bool:=by
  rw[agm,show(Value.bool false).cells=#[.bool false]from rfl,toList_madeCells_one,aib]
 rw[e2]at hown2
 have hc0:w2.cell? ⟨w1.heap.size,0,none⟩=some (.bool false):=by rw[hown2.cellAt 0 (by omega),aib,agv,afm h0]
 have hz0:=hown2.frozenAt 0
 obtain⟨o3,g3⟩:=hown2.stored 0 (.bool true)
 rw[<-List.map_set]at o3
 have hk2:=(ahE w1.heap.size w1).grown hgrow2 (aeM _) (λk e=>by cases e)
 have hlt2:w1.heap.size<w2.heap.size:=ahK w2 _ hc0
 have HK:=Lib.hid (hk2.grown g3 (afk hlt2) (λk e=>by cases e;exact aeM _))
 have hlt3:w1.heap.size<(w2.setCell ⟨w1.heap.size,0,none⟩ (.bool true)).heap.size:=afe hlt2 g3.size
 have HO:=Lib.hid o3
 clear hown2 hgrow2 e2 y0 y1 y2 y3 o3 g3 hk2
 go_upto_region 6 with fail
 clear hc0 hz0 hlt2
 generalize w2.setCell ⟨w1.heap.size,0,none⟩ (.bool true)=w3 at *
 generalize hX:w1.heap.size=X at *
 have HX:=Lib.hid hX
 clear hX
 go_wp2_with fail
 go_loopg [6] (2*n) (λf s6 wr=>∃bits xs,RI w1 X n (λk=>k<=X) wr bits s6 xs/\2*unB bits+xs.length<=f/\f<=2*n)
 case atStart=>
  have hu:=O5 (bits:=aia n false) (i:=0) (by rw[agv,afm h0])
  rw[Xu]at hu
  exact⟨_,[0],⟨HK.out.alloc (afk hlt3) _,HO.out.alloc _,by simp,by simp[h0],Que.one (ay rfl) (by omega),λx hx=>⟨0,by simpa using hx,h0⟩⟩,by simp;omega,aeM _⟩
 case round=>
  obtain⟨bits,xs,hri,hf,hle⟩:=hrel
  have hbel:Below w1.heap.size w1 wr:=by rw[HX.out];exact hri.bel
  obtain⟨z0,z1,z2,z3⟩:=(HX1.out.below hbel).cells
  have HBW:=Lib.hid (HB1.out.trans (hbel.mono HB1.out.size))
  clear hbel
  have HQ:=Lib.hid hri
  clear hri
  cases xs with
  |nil=>
   obtain⟨g,o,cc,rfl,_⟩:=HQ.out.que.ex
   have hX2:X<wr.heap.size:=(HQ.out.own.lt X rfl).2
   go_upto_region 20 with(go_at_call 48;refine(HAL.out _ HBW.out).mono ?_;rintro e w5 ⟨A5,c5,rfl,hrows,hb5⟩)
   obtain⟨g5,o5,rfl,hg5,hr5⟩:=Bg hrows (by rw[uY];exact hpos)
   have HP:=Lib.hid (λ(m:Nat) (hm:m<mW D)=>(show ∃a k,a<D.bs.length/\(m=0->a=0)/\w5.rangeAt g5 (o5+m*2) [.int .i64 (a:Nat),.int .i64 (k:Nat)]from by
    obtain⟨a,k,ha,hk,rfl⟩:=a2w (N:=D.bs.length) hm
    exact⟨a,k,ha,λe=>by have:=Ie (bs:=D.bs) a;omega,hr5 _ _ (by unfold FK;rw[aeT,Ji ha hk];rfl)⟩))
   rw[HN.out]at HP
   have HO5:=Lib.hid ((HQ.out.own.kept (w':=w5) (row:=none) ⟨hb5.os,hb5.tape,hb5.output,hb5.size,λi hi _=>hb5.block i hi⟩ (.inr (by simp[Value.ownBlock]))))
   have HB5:=Lib.hid (HBW.out.trans (hb5.mono HBW.out.size))
   have hX5:X<w5.heap.size:=afe hX2 hb5.size
   have hsz:=HBW.out.size
   clear hrows hb5 z0 z1 z2 z3 hf hr5
   generalize hZ:mW D=N at *
   have HZ:=Lib.hid hZ
   clear hZ
   go_loopg [12,67] N (λf s12 s67 wx=>∃(m:Nat) (os:List Bool),s67=.int .i64 m/\m<=N/\f=N-m/\os.length=m/\(0<m->os[0]? =some true)/\wx.ownsRow w5.heap.size 4 1 s12 m (os.map Value.bool)/\Below w5.heap.size w5 wx)
   case atStart=>exact⟨0,[],rfl,afb _,rfl,rfl,λh=>absurd h (by omega),ahT _ _ _ _,ahE _ _⟩
   case round=>
    obtain⟨m,os,rfl,hm,rfl,hol,hone,hown,hbx⟩:=hrel
    have HM:=Lib.hid (show os.length=m/\(0<m->os[0]? =some true)from⟨hol,hone⟩)
    have HOX:=Lib.hid hown
    have HBX:=Lib.hid hbx
    have m0I:(0:Int)<=(m:Int):=afa _
    clear hol hone hown hbx
    rcases afp m N with hlt|hge
    ·have hltI:(m:Int)<(N:Int):=by omega
     obtain⟨a,k,ha,ha0,hrng⟩:=HP.out m hlt
     have hrng:=vF hrng hg5 HBX.out
     have r0:wr.cell? ⟨g5,o5+m*2,none⟩=some (.int .i64 (a:Nat)):=hrng 0 _ rfl
     have r1:wr.cell? ⟨g5,o5+m*2+1,none⟩=some (.int .i64 (k:Nat)):=hrng 1 _ rfl
     have haI:(a:Int)<(n:Int):=by omega
     have a0I:(0:Int)<=(a:Int):=afa _
     obtain⟨bv,hbv⟩:∃bv,bits[a]? =some bv:=⟨_,aeK (by rw[HQ.out.len];exact ha)⟩
     have HBV:=Lib.hid (show m=0->bv=true from λe=>by rw[ha0 e,HQ.out.one]at hbv;simpa[eq_comm]using hbv)
     have sc:wr.cell? ⟨X,a,none⟩=some (.bool bv):=by
      rw[HBX.out.cell (p:=⟨X,a,none⟩) hX5,HO5.out.cellAt a (by omega),aeT,hbv];rfl
     clear hrng ha0 hbv
     go_upto_region 22 with fail
     have s6:(wr.alloc (.cells #[.int .i64 (a:Nat),.int .i64 (k:Nat)] tP)).cell? ⟨X,a,none⟩=some (.bool bv):=Ed sc
     have p6:(wr.alloc (.cells #[.int .i64 (a:Nat),.int .i64 (k:Nat)] tP)).cell? ⟨wr.heap.size,0,none⟩=some (.int .i64 (a:Nat)):=ahF _ _ 0 _ tP (0,0) (ay rfl)
     have HO6:=Lib.hid (HOX.out.alloc (.cells #[.int .i64 (a:Nat),.int .i64 (k:Nat)] tP))
     have HB6:=Lib.hid (HBX.out.alloc HBX.out.size (.cells #[.int .i64 (a:Nat),.int .i64 (k:Nat)] tP))
     clear sc r0 r1
     generalize wr.heap.size=Y at *
     generalize wr.alloc (.cells #[.int .i64 (a:Nat),.int .i64 (k:Nat)] tP)=w6 at *
     go_wp2_with (at_builtin;refine rH rfl _ _ 44 rfl w5.heap.size 4 (.bool false) 1 1 Tryz.underlying44 boR rfl (by decide) _ _ _ rfl (HO6.out.alloc _) [.bool bv] _ 1 rfl (ay rfl) rfl (by simp[Value.oneCell']) (by omega) (by omega) (HB6.out.alloc HB6.out.size _) (by have:=HB6.out.size;simp;omega) ?_;intro v7 w7 hown7 hbel7)
     go_roundg (N-(m+1))
     case measure=>omega
     case rel=>exact⟨m+1,os++[bv],by simp,by omega,rfl,by rw[aeL,HM.out.1];rfl,λ_=>by
      rcases agN m with h|h
      ·rw[HBV.out h,afA (HM.out.1.trans h)];rfl
      ·rw[af5 (by rw[HM.out.1];exact h)];exact HM.out.2 h,by rw[afX];exact hown7,hbel7⟩
    ·obtain rfl:m=N:=by omega
     go_wp2_with fail
     go_ret2
     rcases HOX.out.2 with⟨_,e0⟩|⟨g7,cap,cur,rfl,_⟩
     ·omega
     ·exact⟨_,_,by rw[HZ.out];rfl,⟨g7,0,rfl,by rw[HOX.out.cellAt 0 (by omega),aeT,HM.out.2 hpos];rfl⟩,HB5.out.trans (HBX.out.mono HB5.out.size)⟩
  |cons x r=>
   obtain⟨g,o,cc,rfl,hcc,hcell,hpop⟩:=HQ.out.que.pop
   obtain⟨b,rfl,hbn⟩:=HQ.out.lim x afh
   have HPOP:=Lib.hid hpop
   have hX2:X<wr.heap.size:=(HQ.out.own.lt X rfl).2
   obtain⟨y,hy⟩:∃y,D.bs[b]? =some y:=⟨_,aeK (by rw[HN.out];exact hbn)⟩
   have hmem:=aeY hy
   obtain⟨gb,ob,rfl,hgb,hrb⟩:=Bg HR.out (by rw[af4,HN.out];exact h0)
   have hjr:=UE (vF (hrb b y.cells (by rw[aeT,hy];rfl)) hgb HBW.out)
   have hk:au Kd.ok qM y.pre/\au Kd.ok kW y.post:=⟨(HF.out.blk y hmem).rJ,(HF.out.blk y hmem).mZ⟩
   have hl13:(y.pre++y.a::y.post).length=13:=by rw[aeL,afi,<-hk.1.len,<-hk.2.len];rfl
   have HTy:=Lib.hid (HT.out y hmem)
   have HLy:=Lib.hid (HL.out y hmem)
   have HJ:=Lib.hid hjr
   have hbI:(b:Int)<(n:Int):=by omega
   have b0I:(0:Int)<=(b:Int):=afa _
   have hf2:2*unB bits+(r.length+1)<=gk:=hf
   have hrL:r.length+1<=48:=by omega
   have l0I:(0:Int)<((r.length:Int)+1):=by omega
   clear hpop hf hy hrb hjr hmem hk
   generalize y.pre++y.a::y.post=J at *
   generalize tg y=ts at *
   obtain⟨hl2,hlt⟩:=HLy.out
   generalize hoo:(if cc=1 then o else o+1)=oo at *
   generalize hL:r.length=L at *
   go_upto_region 11 with(first |(refine wpList_load_mid rfl 81 _ rfl gb (ob+b*14+1) rfl J _ HJ.out Tryz.underlying81 rfl (by rw[hl13];exact jmR) ?_)|(go_at_call 49;refine(HTy.out _ HBW.out).mono ?_;rintro e w5 ⟨A5,c5,rfl,hrows,hnew,hb5⟩))
   rw[show(if cc=1 then some (⟨g,o,none⟩:Addr)else some ⟨g,o+1,none⟩)=some ⟨g,oo,none⟩from by rw[<-hoo];split<;>rfl]
   have HAV:=Lib.hid (show ∀k,k<=X->(k<=X\/∃o s,A5=some ⟨k,o,s⟩)from λk h=>.inl h)
   have HI5:=Lib.hid ((show RI w1 X n (λk=>k<=X\/∃o s,A5=some ⟨k,o,s⟩) wr bits (.slice (some ⟨g,oo,none⟩) L (cc-1)) r from⟨HQ.out.bel,HQ.out.own,HQ.out.len,HQ.out.one,HPOP.out.avoid λk hk h=>h.elim id λ⟨o,s,e⟩=>absurd (hnew k o s e) (by omega),λx hx=>HQ.out.lim x (afd _ hx)⟩).below hb5)
   have HR5:=Lib.hid hrows
   have HG5:=Lib.hid (λg o s e=>afe hX2 (hnew g o s e))
   have HLT:=Lib.hid hlt
   clear hrows hnew hb5 z0 z1 z2 z3 HPOP hoo hcell HTy HLy hlt HJ hcc l0I hl13
   generalize Value.slice (some ⟨g,oo,none⟩) L (cc-1)=v6 at *
   have hM:2*unB bits+r.length<gk:=by omega
   go_wp2_with fail
   go_loopg [6,47] ts.length (λf s6 s47 wx=>∃(k:Nat) (bits':List Bool) (xs:List Int),s47=.int .i64 k/\k<=ts.length/\f=ts.length-k/\RI w1 X n (λk=>k<=X\/∃o s,A5=some ⟨k,o,s⟩) wx bits' s6 xs/\dR wx A5 1 (ts.map λt=>[.int .i64 t])/\2*unB bits'+xs.length<=2*unB bits+r.length)
   case atStart=>exact⟨0,bits,r,rfl,afb _,rfl,HI5.out,HR5.out,aeM _⟩
   case round=>
    obtain⟨k,bs2,xs,rfl,hk,rfl,hri,hrows,hM2⟩:=hrel
    have k0I:(0:Int)<=(k:Int):=afa _
    have HI:=Lib.hid hri
    have HRW:=Lib.hid hrows
    clear hri hrows
    rcases afp k ts.length with hlt|hge
    ·have hltI:(k:Int)<(ts.length:Int):=by omega
     obtain⟨τ,hτ⟩:∃τ,ts[k]? =some τ:=⟨_,aeK hlt⟩
     obtain⟨a,rfl,han⟩:=HLT.out τ (aeY hτ)
     obtain⟨gt,ot,rfl,hgt,hrt⟩:=HRW.out k _ (by rw[aeT,hτ];rfl)
     have hc:wr.cell? ⟨gt,ot+k,none⟩=some (.int .i64 (a:Nat)):=by have:=hrt 0 _ rfl;rw[agm]at this;exact this
     have haI:(a:Int)<(n:Int):=by omega
     have a0I:(0:Int)<=(a:Int):=afa _
     obtain⟨bv,hbv⟩:∃bv,bs2[a]? =some bv:=⟨_,aeK (by rw[HI.out.len];exact han)⟩
     have sc:wr.cell? ⟨X,a,none⟩=some (.bool bv):=by rw[HI.out.own.cellAt a (by omega),aeT,hbv];rfl
     have sf:=HI.out.own.frozenAt a
     have hXw:=HI.out.lt
     have hXg:=HG5.out gt ot none rfl
     have HBV:=Lib.hid hbv
     have HTK:=Lib.hid hτ
     clear hτ hrt hbv
     cases bv with
     |true=>
      go_wp2_with fail
      go_roundg (ts.length-(k+1))
      case measure=>omega
      case rel=>exact⟨k+1,bs2,xs,by simp,by omega,rfl,HI.out,HRW.out,hM2⟩
     |false=>
      go_upto_region 16 with fail
      have HI2:=Lib.hid (HI.out.put (.inl (aeM X)) a)
      have HR2:=Lib.hid (yP HRW.out (w':=wr.setCell ⟨X,a,none⟩ (.bool true)) (λg o s e _=>ai3 wr _ _ g λh=>by cases e;have h:gt=X:=h;omega) (by simp[World.setCell]))
      have hu:=O5 HBV.out
      clear sc sf hc HI HRW HBV
      generalize wr.setCell ⟨X,a,none⟩ (.bool true)=w6 at *
      have HI3:=Lib.hid (HI2.out.below ((ahE _ w6).alloc (aeM _) (.cells #[.int .i64 (a:Nat)] 3)))
      have HR3:=Lib.hid (HR2.out.below ((ahE _ w6).alloc (aeM _) (.cells #[.int .i64 (a:Nat)] 3)))
      have hA3:∀j,(j<=X\/∃o s,some (⟨gt,ot,none⟩:Addr)=some ⟨j,o,s⟩)->j<(w6.alloc (.cells #[.int .i64 (a:Nat)] 3)).heap.size:=λj hj=>by
       have h1:=HI3.out.lt
       obtain⟨g',o',e',h2,_⟩:=HR3.out k [.int .i64 (a:Nat)] (by rw[aeT,HTK.out];rfl)
       rcases hj with h|⟨o,s,e⟩
       ·omega
       ·cases e;cases e';exact h2
      go_wp2_with (at_builtin;refine Jw rfl _ _ 31 rfl 3 Tryz.underlying31 inR rfl HI3.out.que (a:Nat) w6.heap.size rfl 3 (ay rfl) (by omega) hA3 ?_;intro v7 w7 hq7 hk7)
      go_roundg (ts.length-(k+1))
      case measure=>omega
      case rel=>exact⟨k+1,bs2.set a true,xs++[(a:Int)],by simp,by omega,rfl,HI3.out.push hk7 (λj hj=>.inl hj) hq7 han,yP HR3.out (λg o s e hg=>hk7.block g (.inr ⟨o,s,e⟩) hg) hk7.size,by rw[aeL];simp only[afi,afC];omega⟩
    ·obtain rfl:k=ts.length:=by omega
     go_wp2_with fail
     go_roundg (2*unB bs2+xs.length)
     case measure=>omega
     case rel=>exact⟨bs2,xs,HI.out.avoid (λj _ h=>.inl h),aeM _,by omega⟩
