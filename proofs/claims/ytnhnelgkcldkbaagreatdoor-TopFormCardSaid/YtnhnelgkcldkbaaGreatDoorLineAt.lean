/- Rvalues as lists of cells. -/
import Derived.Shelf.Spec.SlicesInsertGrow
import Derived.Test.YtnhnelgkcldkbaaGreatDoorJump6
set_option linter.all false
set_option maxRecDepth 100000
noncomputable section
open List renaming range → aia
namespace Go.Proofs.YtnhnelgkcldkbaaGreatDoor
namespace Am
open Go.RowKit
theorem wP (l:Int)(d:Bool)(f:Int):(jF l d f).length<=25:=by
 have:=iU l
 rw[N7]
 have hf:(YR f).length<=2:=by
  unfold YR
  split
  ·decide
  ·split<;>decide
 cases d<;>simp<;>omega
theorem Pn (o:Opd):(opT o).length<=30:=by
 have h1:=iU o.n
 have h2:=wP o.l o.d o.f
 unfold opT
 split
 ·omega
 ·split<;>simp only[aeL,Wn,XA,afi,afC]<;>omega
theorem a6A (r:Rv):(rvT r).length<=64:=by
 have h1:=Pn r.a
 have h2:=Pn r.b
 have h3:=wP r.l r.d r.f
 have h4:(a6D r.k r.bo).length<=5:=by
  unfold a6D
  split
  ·decide
  ·split
   ·decide
   ·split<;>decide
 unfold rvT
 split
 ·omega
 ·split
  ·simp only[aeL,afi];omega
  ·split<;>simp only[aeL,afi,afC]<;>omega
structure Stm where
 k:Int
 l:Int
 d:Bool
 f:Int
 r:Rv
 a:Opd
 n:Int
def Rv.no:Rv:=⟨0,Opd.no,Opd.no,0,0,0,false,0⟩
def Stm.Ok (s:Stm):Prop:=
 (s.k=1/\InP s.l s.f/\s.r.Ok/\s.a=Opd.no/\s.n=0)\/
 ((s.k=2\/s.k=4)/\s.l=0/\s.d=false/\s.f=0/\s.r=Rv.no/\s.a.Ok/\s.n=0)\/
 (s.k=3/\s.l=0/\s.d=false/\s.f=0/\s.r=Rv.no/\s.a=Opd.no/\0<=s.n/\s.n<16)
def a0J:List UInt8:=[32,58,61,32]
def Ur:List UInt8:=[112,114,105,110,116,32]
def NI:List UInt8:=[97,115,115,101,114,116,32]
def TM:List UInt8:=[102,114,101,115,104,32]
def stT (s:Stm):List UInt8:=
 if s.k=1 then jF s.l s.d s.f++(a0J++rvT s.r)else if s.k=2 then Ur++opT s.a else if s.k=4 then NI++opT s.a else TM++jF s.n false 0
theorem a7C (s:Stm):(stT s).length<=100:=by
 have h1:=wP s.l s.d s.f
 have h2:=a6A s.r
 have h3:=Pn s.a
 have h4:=wP s.n false 0
 unfold stT
 split
 ·simp only[aeL,a0J,afi,afC];omega
 ·split
  ·simp only[aeL,Ur,afi,afC];omega
  ·split
   ·simp only[aeL,NI,afi,afC];omega
   ·simp only[aeL,TM,afi,afC];omega
def a0d (us:List Value):Stm:=⟨ah us 0,ah us 1,decide (ah us 2=1),ah us 3,Yz us 4,EJ us 20,ah us 25⟩
def aa3 (b:Bool)(ks:List Kd)(pls:List Pl)(L:Lf)(x:S):Option (List Nat):=bif b then orO (ob (DV L [x,S.bool false,S.int .u8 0] ks.length pls) λh=>some [h]) (ob (ZC ks x) λn=>some (120::n))else ob (ZC ks x) λn=>some (120::n)
def stX (b:Bool)(ks:List Kd)(pls:List Pl)(L:Lf)(xs:List S):Option (List Nat):=
 ob (nth xs 0) λk=>ob (I8 k) λk=>
  bif decide (k=1)then ob (Zk ks pls L xs 1) λp=>ob (rvX ks pls L xs 4) λr=>some (p++(tN a0J++r))
  else bif decide (k=2)then ob (opX ks pls L xs 20) λa=>some (tN Ur++a)
  else bif decide (k=4)then ob (opX ks pls L xs 20) λa=>some (tN NI++a)
  else bif decide (k=3)then ob (nth xs 25) λx=>ob (aa3 b ks pls L x) λn=>some (tN TM++n)
  else none
section
variable [Base] {r:Ren} {L:Lf} {ks:List Kd} {pls:List Pl} {xs:List S} {us:List Value}
theorem a6l (hL:L.Holds Base.rho Base.sig)(d:Dec ks Base.rho Base.sig)(e:PlE ks.length pls Base.rho Base.sig){b:Bool}{x:S}{l:List Nat}(h:aa3 b ks pls L x=some l){v:Value}(hv:VS r x v):bW Base.sig l=jF (bD v) false 0:=by
 have key:∀{l:List Nat},(ob (ZC ks x) λn=>some (120::n))=some l->bW Base.sig l=jF (bD v) false 0:=λ{l} h=>by
  obtain⟨n,hn,h⟩:=aj h
  cases h
  rw[oH (by decide),VH d hn hv,N7]
  show _=[]++(120::(gy (bD v)++YR 0))
  simp[YR]
 unfold aa3 at h
 cases b
 ·exact key h
 ·rcases dY h with h|h
  ·obtain⟨q,hq,h⟩:=aj h
   cases h
   obtain⟨j,p,hj,rfl,hp,hok⟩:=yV hq
   have hv3:au (VS r) ((plT p).map L.nS) [v,.bool false,.int .u8 0]:=by
    rw[hp]
    exact⟨hv,rfl,rfl,trivial⟩
   have hu:=Nr hL hv3
   simp only[ahz,agJ]at hu
   obtain⟨e1,e2,e3⟩:=hu
   rw[iM,e j p hj (O6 hL hok),e1]
   have e2:false=decide (Base.rho p.2.1=1):=by injection e2
   have e3:(0:Int)=Base.rho p.2.2:=by injection e3
   rw[<-e2,<-e3]
   rfl
  ·exact key h
theorem a9Z (hL:L.Holds Base.rho Base.sig)(d:Dec ks Base.rho Base.sig)(e:PlE ks.length pls Base.rho Base.sig)(ha:au (VS r) xs us){b:Bool}{l:List Nat}(h:stX b ks pls L xs=some l):
  bW Base.sig l=stT (a0d us):=by
 obtain⟨x,hx,h⟩:=aj h
 obtain⟨k,hk,h⟩:=aj h
 obtain⟨u,k1,v1,c1⟩:=zx ha hx
 rw[xY hk v1]at c1
 unfold stT
 rw[show(a0d us).k=k from c1]
 cases h1:decide (k=1)<;>rw[h1]at h<;>simp only[aeW,aeS]at h
 case true=>
  simp only[af6]at h1
  obtain⟨p,hp,h⟩:=aj h
  obtain⟨q,hq,h⟩:=aj h
  cases h
  rw[afm h1,dI,dI,kE,Cc hL e ha hp,aa0 hL d e ha hq]
  rfl
 simp only[afB]at h1
 rw[afc h1]
 cases h2:decide (k=2)<;>rw[h2]at h<;>simp only[aeW,aeS]at h
 case true=>
  simp only[af6]at h2
  obtain⟨p,hp,h⟩:=aj h
  cases h
  rw[afm h2,dI,kE,xB hL d e ha hp]
  rfl
 simp only[afB]at h2
 rw[afc h2]
 cases h4:decide (k=4)<;>rw[h4]at h<;>simp only[aeW,aeS]at h
 case true=>
  simp only[af6]at h4
  obtain⟨p,hp,h⟩:=aj h
  cases h
  rw[afm h4,dI,kE,xB hL d e ha hp]
  rfl
 simp only[afB]at h4
 rw[afc h4]
 cases h3:decide (k=3)<;>rw[h3]at h<;>simp only[aeW,aeS]at h
 ·cases h
 obtain⟨y,hy,h⟩:=aj h
 obtain⟨n,hn,h⟩:=aj h
 cases h
 obtain⟨u2,k2,v2,c2⟩:=zx ha hy
 rw[dI,kE,a6l hL d e hn v2,<-c2]
 rfl
end
def Ee (ks:List Kd)(pls:List Pl)(L:Lf):aU:=λf a h fl=>orR (a3o (L.know (fF 0 ks)) f a h fl) (aa5 L ks pls noO f a h fl)
def aaG (F:FuncId)(ks:List Kd)(pls:List Pl)(L:Lf):R:=@runs (L.know (fF 0 ks)) (oq Tryz.prog) (pJ Tryz.prog) (Ee ks pls L) 30 15 F [.g (tX ks L)] ⟨[],0⟩ 0
section
variable {F:FuncId} {ks:List Kd} {e:E} {T:List Value->List UInt8} {val:List UInt8->Value} {pls:List Pl}
theorem ZF {mk:S->V}(hmk:∀(b0:Base) r l u,@VV b0 r (mk (S.wY l)) u->u=val (bW b0.sig l))(exp:Lf->List S->Option (List Nat))
  (hexp:∀(b0:Base) (L:Lf) (r:Ren) (xs:List S) (us:List Value) (l:List Nat),L.Holds b0.rho b0.sig->Dec ks b0.rho b0.sig->PlE ks.length pls b0.rho b0.sig->@au _ _ (@VS b0 r) xs us->exp L xs=some l->bW b0.sig l=T us)
  (hpl:pls.all (λp=>decide (p.1<ks.length)&&decide (p.2.1<ks.length)&&decide (p.2.2<ks.length))=true) {sp:Sp}
  (hrun:((sp.leaves (Lf.Iu [(true,ks)] pls.length)).all λL=>EG e ks mk (exp L (tX ks L)) L (aaG F ks pls L))=true):Texts Tryz.prog iq F ks e T val:=by
 intro us hk he w hw
 have hg:Gps [(true,ks)] [.agg us.toArray] us:=⟨us,[],(aft _).symm,⟨hk,.inl ⟨rfl,rfl⟩⟩,rfl⟩
 have hks:fC [(true,ks)]=ks:=by simp[fC]
 have hlen:us.length=ks.length:=by have:=hk.len;omega
 have kk:=Ik hg (FQ us pls)
 have d:=KF hg (plX us pls)
 have ee:PlE ks.length pls (dH (kH us (plX us pls))) (gu (kH us (plX us pls))):=by
  rw[<-hlen]
  exact a9r (by rw[hlen];exact hpl)
 rw[hks]at kk d
 have hl:(plX us pls).length=pls.length:=by simp[plX]
 have hst:=Lf.KH hg (FQ us pls)
 rw[hl]at hst
 obtain⟨L,hm,hL⟩:=sp.cover hst
 have hp:=aeV.1 hrun L hm
 letI b0:Base:=base0 w (Lf.ok hL kk)
 have ha':au (VA r0) [.g (dD 0 ks)] [.agg us.toArray]:=
  xC (cs:=kH us (plX us pls)) rfl rfl ((plX us pls).map λx=>.string ⟨x.toArray⟩) (gs:=[(true,ks)]) (pre:=[]) (cs':=us) rfl hg
 have ha:=Lf.xU hL ha'
 unfold EG at hp
 cases hb:@E.abs (L.know (fF 0 ks)) ((dD 0 ks).map L.nS) e with
 |none=>rw[hb]at hp;cases hp
 |some b=>
  rw[hb]at hp
  have ha2:=ha
  obtain⟨⟨us',e1,hus⟩,_⟩:=ha2
  have e1:Value.agg us.toArray=.agg us'.toArray:=e1
  obtain rfl:us=us':=by simpa using e1
  have hbv:=E.qZ hus hb
  rw[he]at hbv
  subst hbv
  have hp:(Option.rec false (λl=>wZ (mk (S.wY l)) (aaG F ks pls L)) (exp L (tX ks L)):Bool)=true:=hp
  cases hx:exp L (tX ks L)with
  |none=>rw[hx]at hp;cases hp
  |some l=>
   rw[hx]at hp
   obtain⟨h',hr⟩:=yL hp
   have hS:Sound Tryz.prog (@runs (L.know (fF 0 ks)) (oq Tryz.prog) (pJ Tryz.prog) (Ee ks pls L) 30 15):=
    @Aq w _ _ _ (Lf.ok hL kk) _ (@fG (base0 w (Lf.ok hL kk)) _ _ _ (P5 (base0 w (Lf.ok hL kk))) (GX hL kk d ee hw (Qg _))) 30 15
   refine(je w hw.size (λ_ _=>rfl) hS ha hr).mono λx w' ⟨u,r',e1,e2,e3⟩=>⟨?_,e3⟩
   rw[e1,hmk b0 _ _ _ e2,hexp b0 L r0 _ _ _ hL d ee hus hx]
end
section
variable [Know]
end
section
variable [Base] {r:Ren} {xs:List S} {us:List Value}
end
section
variable {F:FuncId} {ks:List Kd} {e:E} {T:List Value->List Int} {pls:List Pl}
end
section
variable {F:FuncId} {ks:List Kd} {e:E} {T:List Value->List Int} {pls:List Pl}
end
end Am
namespace loan
open Go.RowKit Am
def iV (bs:List bU)(i:Nat):Nat:=(bs.getD i b0).st.length
def aQ (bs:List bU):Nat->Nat
 |0=>0
 |i+1=>aQ bs i+(iV bs i+1)
def mV (i n:Nat):List (Nat×Nat):=(aia n).map λk=>(i,k)
def rW (bs:List bU):Nat->List (Nat×Nat)
 |0=>[]
 |i+1=>rW bs i++mV i (iV bs i+1)
def CO (bs:List bU)(i k:Nat):List (Nat×Nat):=rW bs i++mV i k
section
variable {bs:List bU} {i j k n N:Nat}
theorem Xy (i n:Nat):(mV i n).length=n:=by simp[mV]
theorem zT (bs:List bU):∀i,(rW bs i).length=aQ bs i
 |0=>rfl
 |i+1=>by
  show(rW bs i++mV i (iV bs i+1)).length=_
  rw[aeL,zT bs i,Xy]
  rfl
theorem a2U:mV i (k+1)=mV i k++[(i,k)]:=by simp[mV,ahA]
theorem at_next:CO bs i (k+1)=CO bs i k++[(i,k)]:=by
 unfold CO
 rw[a2U,af9]
theorem a7i:CO bs i (iV bs i+1)=CO bs (i+1) 0:=by
 show _=(rW bs i++mV i (iV bs i+1))++mV (i+1) 0
 simp[CO,mV]
theorem VO:CO bs i 0=rW bs i:=by simp[CO,mV]
theorem a1g (h:i<=j):∃t,rW bs j=rW bs i++t:=by
 induction j with
 |zero=>exact⟨[],by rw[show i=0 by omega];simp⟩
 |succ j ih=>
  by_cases hij:i=j+1
  ·exact⟨[],by rw[hij];simp⟩
  ·obtain⟨t,e⟩:=ih (by omega)
   exact⟨t++mV j (iV bs j+1),by show rW bs j++_=_;rw[e,af9]⟩
theorem vP (h:i<=j):aQ bs i<=aQ bs j:=by
 obtain⟨t,e⟩:=a1g (bs:=bs) h
 have:=congrArg List.length e
 rw[aeL,zT,zT]at this
 omega
theorem adp (hi:i<N)(hk:k<=iV bs i):aQ bs i+k<aQ bs N:=by
 have h1:aQ bs (i+1)<=aQ bs N:=vP (by omega)
 have h2:aQ bs (i+1)=aQ bs i+(iV bs i+1):=rfl
 omega
theorem Ji (hi:i<N)(hk:k<=iV bs i):(rW bs N)[aQ bs i+k]? =some (i,k):=by
 obtain⟨t,e⟩:=a1g (bs:=bs) (i:=i+1) (j:=N) (by omega)
 have h2:rW bs (i+1)=rW bs i++mV i (iV bs i+1):=rfl
 rw[e,h2,af9,af7 (by rw[zT];omega),zT,show aQ bs i+k-aQ bs i=k by omega,af5 (by rw[Xy];omega)]
 simp[mV,show k<iV bs i+1 by omega]
theorem a2w (h:n<aQ bs N):∃i k,i<N/\k<=iV bs i/\n=aQ bs i+k:=by
 induction N with
 |zero=>exact absurd h (by show ¬n<0;omega)
 |succ N ih=>
  by_cases hn:n<aQ bs N
  ·obtain⟨i,k,h1,h2,h3⟩:=ih hn
   exact⟨i,k,by omega,h2,h3⟩
  ·have h2:aQ bs (N+1)=aQ bs N+(iV bs N+1):=rfl
   exact⟨N,n-aQ bs N,by omega,by omega,by omega⟩
theorem D9 (hs:∀i,iV bs i<=24):∀i,aQ bs i<=25*i
 |0=>aeM _
 |i+1=>by
  have h1:=D9 hs i
  have h2:aQ bs (i+1)=aQ bs i+(iV bs i+1):=rfl
  have:=hs i
  omega
theorem Ie (i:Nat):i<=aQ bs i:=by
 induction i with
 |zero=>exact aeM _
 |succ i ih=>
  have h2:aQ bs (i+1)=aQ bs i+(iV bs i+1):=rfl
  omega
theorem getD_mem {b:bU}(h:bs[i]? =some b):bs.getD i b0=b:=by rw[af8,h];rfl
theorem BP {b:bU}(h:bs[i]? =some b):iV bs i=b.st.length:=by unfold iV;rw[getD_mem h]
theorem FZ (h:∀b∈bs,b.st.length<=24)(i:Nat):iV bs i<=24:=by
 unfold iV
 rcases Je (l:=bs) (i:=i) (d:=b0)with k|k
 ·exact h _ k
 ·rw[k];decide
end
section
variable {bs:List bU} {i j k n N:Nat} {el x:List Value}
end
end loan
namespace txt
open Go.RowKit Am
def Wq (k:Int):List UInt8:=if k=1 then[105,110,116]else[112,97,105,114]
def markT (k:Int):List UInt8:=if k=3 then[38]else if k=4 then[38,109,117,116,32]else[42]
def ED (t:List Value):List UInt8:=if ah t 1=0 then Wq (ah t 0)else markT (ah t 0)++Wq (ah t 1)
def JQ (u:Bool):List UInt8:=if u then[32,117,110,115,97,102,101]else[]
def Cj (n p:Int)(u:Bool):List UInt8:=[102,110,32]++(gy n++([32,40]++(gy p++([41]++JQ u))))
def Tz (i:Nat)(t:List Value):List UInt8:=120::(gy (i:Nat)++([58,32]++ED t))
def bhT (i:Nat):List UInt8:=98::(gy (i:Nat)++[58])
def stL (el:List Value):List UInt8:=[32,32]++stT (a0d el)
def jmL (b:bU):List UInt8:=[32,32]++zy b.pre b.ops b.post
def noB:bU:=⟨.bool false,[],.bool false,[],[],[]⟩
def tY (D:FnD)(i:Nat):List (List UInt8):=(aia i).map λk=>Tz k (D.ls.getD k [])
def Px (i:Nat)(b:bU):List (List UInt8):=bhT i::(b.st.map stL++[jmL b])
def qh (D:FnD)(i:Nat):List (List UInt8):=(aia i).flatMap λk=>Px k (D.bs.getD k noB)
def a4N (D:FnD)(n:Int):List (List UInt8):=Cj n D.p D.u::(tY D D.ls.length++qh D D.bs.length)
def nl (ls:List (List UInt8)):List UInt8:=ls.flatMap λl=>l++[10]
def textF (D:FnD)(n:Int):List UInt8:=nl (a4N D n)
theorem Z8 (a b:List (List UInt8)):nl (a++b)=nl a++nl b:=by simp[nl]
theorem a7E (l:List UInt8)(b:List (List UInt8)):nl (l::b)=l++(10::nl b):=by simp[nl]
theorem V7 (l:List UInt8):nl [l]=l++[10]:=by simp[nl]
theorem sH (a:List (List UInt8))(l:List UInt8):nl (a++[l])=nl a++(l++[10]):=by rw[Z8,V7]
theorem Zy (D:FnD)(i:Nat):tY D (i+1)=tY D i++[Tz i (D.ls.getD i [])]:=by simp[tY,ahA]
theorem Lc (D:FnD)(i:Nat):qh D (i+1)=qh D i++Px i (D.bs.getD i noB):=by simp[qh,ahA]
theorem Bj (D:FnD)(i:Nat):(tY D i).length=i:=by simp[tY]
theorem a4x (t:List Value):(ED t).length<=9:=by
 have hb:∀k,(Wq k).length<=4:=λk=>by unfold Wq;split<;>simp
 have hm:∀k,(markT k).length<=5:=λk=>by
  unfold markT
  split
  ·simp
  ·split<;>simp
 unfold ED
 split
 ·have:=hb (ah t 0);omega
 ·have:=hb (ah t 1);have:=hm (ah t 0);rw[aeL];omega
theorem a1j (u:Bool):(JQ u).length<=7:=by cases u<;>simp[JQ]
theorem Nc (n p:Int)(u:Bool):(Cj n p u).length<=1100:=by
 have h1:=iU n
 have h2:=iU p
 have h3:=a1j u
 simp only[Cj,aeL,afi,afC]
 omega
theorem a1w (i:Nat)(t:List Value):(Tz i t).length<=1100:=by
 have h1:=iU (i:Nat)
 have h2:=a4x t
 simp only[Tz,aeL,afi,afC]
 omega
theorem WI (i:Nat):(bhT i).length<=1100:=by
 have h1:=iU (i:Nat)
 simp only[bhT,aeL,afi,afC]
 omega
theorem Xc (el:List Value):(stL el).length<=1100:=by
 have h1:=a7C (a0d el)
 simp only[stL,aeL,afi,afC]
 omega
theorem P7:∀{ls:List (List UInt8)},(∀l∈ls,l.length<=1100)->(nl ls).length<=1101*ls.length
 |[],_=>by simp[nl]
 |l::ls,h=>by
  have h1:=h l afh
  have h2:=P7 λx hx=>h x (afd _ hx)
  rw[a7E]
  simp only[aeL,afi]
  omega
open loan
def uh (D:FnD)(i k:Nat):Nat:=D.ls.length+2+k+aQ D.bs i+i
def pW (D:FnD)(m:Nat)(t:Int):Prop:=(m=0/\t=-1)\/∃i k,i<D.bs.length/\k<=iV D.bs i/\m=aQ D.bs i+k+1/\t=(uh D i k:Nat)
theorem pW.start (D:FnD):pW D 0 (-1):=.inl ⟨rfl,rfl⟩
theorem pW.next {D:FnD}{i k:Nat}(hi:i<D.bs.length)(hk:k<=iV D.bs i):pW D (aQ D.bs i+k+1) (uh D i k:Nat):=.inr ⟨i,k,hi,hk,rfl,rfl⟩
theorem pW.lt {D:FnD}{i k:Nat}{t:Int}(hk:k<=iV D.bs i)(h:pW D (aQ D.bs i+k) t):t<(uh D i k:Nat):=by
 rcases h with⟨_,rfl⟩|⟨a,c,ha,hc,he,rfl⟩
 ·omega
 ·have h2:aQ D.bs (i+1)=aQ D.bs i+(iV D.bs i+1):=rfl
  have hle:a<=i:=by
   rcases afp i a with h|h
   ·have:=vP (bs:=D.bs) (i:=i+1) (j:=a) h
    omega
   ·exact h
  unfold uh
  omega
