/- Jumps' texts. -/
import Derived.Test.YtnhnelgkcldkbaaGreatDoorJump5
set_option linter.all false
set_option maxHeartbeats 1000000
set_option maxRecDepth 100000
open List renaming getElem?_cons_succ → aia, range → aic
open Nat renaming beq → aib
namespace Go.Proofs.YtnhnelgkcldkbaaGreatDoor
namespace Am
open Go.RowKit
def a2Y:List UInt8:=[103,111,116,111,32,98]
def Oq:List UInt8:=[98,114,97,110,99,104,32]
def bB:List UInt8:=[32,98]
def VJ:List UInt8:=[114,101,116,117,114,110]
def a4z:List UInt8:=[97,98,111,114,116]
def fB:List UInt8:=[32,58,61,32,102]
def a3a:List UInt8:=[40]
def Og:List UInt8:=[44,32]
def V4:List UInt8:=[41,32,98]
def KC (el:List Value):List UInt8:=opT (EJ el 0)
def a2X (post:List Value):List UInt8:=jF (ah post 0) (decide (ah post 1=1)) (ah post 2)
def zy (pre:List Value)(els:List (List Value))(post:List Value):List UInt8:=
 if ah pre 0=1 then a2Y++gy (ah pre 7)
 else if ah pre 0=2 then Oq++(KC ((pre.drop 1).take 5)++(bB++(gy (ah pre 7)++(bB++gy (ah pre 8)))))
 else if ah pre 0=3 then VJ
 else if ah pre 0=5 then a4z
 else a2X post++(fB++(gy (ah pre 6)++(a3a++(qB Og (els.map KC)++(V4++gy (ah pre 7))))))
def aak (F:FuncId):Prop:=
 ∀(w:World) (v:Value) (pre:List Value) (sv:Value) (post:List Value) (els:List (List Value)),iq w->jd w v pre sv post els->okJ pre els post=true->
  Calls Tryz.prog F #[v] w λx w'=>x=.returned (vS2 (zy pre els post))/\Below w.heap.size w w'
theorem JG {n:Int}(h0:-9223372036854775808<=n)(h1:n<=9223372036854775807){w:World}(k:iq w):Calls Tryz.prog 68 #[.int .i64 n] w λe w'=>e=.returned (vS1 (gy n))/\Below w.heap.size w w':=
 (Tryz.strconv_Itoa n h0 h1 w k.tab).mono λe w' ⟨e1,n',os,e2⟩=>⟨by rw[e1];unfold vS1;rw[show gy n=Lib.itoa n from yj n h0 h1],by rw[e2];exact Lib.below_grow _ _ (aeM _) _ _⟩
theorem xQ (l:Int)(d:Bool)(f:Int):(jF l d f).length<=25:=by
 unfold jF
 have h1:=iU l
 have h2:(bif d then([42]:List UInt8)else[]).length<=1:=by cases d<;>simp
 have h3:(if f=1 then([46,49]:List UInt8)else if f=2 then[46,50]else[]).length<=2:=by
  split
  ·simp
  ·split<;>simp
 simp only[aeL,afi]
 omega
theorem Bf (o:Opd):(opT o).length<=30:=by
 unfold opT
 have h1:=iU o.n
 have h2:=xQ o.l o.d o.f
 have h3:Wn.length=5:=rfl
 have h4:XA.length=5:=rfl
 split
 ·omega
 ·split<;>(rw[aeL];omega)
section
variable {w:World} {v:Value} {pre:List Value} {sv:Value} {post:List Value} {els:List (List Value)} (hj:jd w v pre sv post els)
include hj
def qy (_:jd w v pre sv post els):List (List UInt8):=KC ((pre.drop 1).take 5)::a2X post::gy (ah pre 7)::gy (ah pre 8)::gy (ah pre 6)::els.map KC
def qx (_:jd w v pre sv post els):List Int:=els.flatten.map bD
@[reducible] noncomputable def dF : Base :=
 { Know.nought with nb:=w.heap.size,g:=λk=>w.heap[k]?,rho:=dH (behind (aW pre els post) (qy hj) (qx hj)),sig:=gu (behind (aW pre els post) (qy hj) (qx hj)),ok:=aC.nought _ _,lst:=λ_=>⟨sv,els⟩ }
theorem GN:(qy hj).length=5+els.length:=by simp[qy];omega
theorem Zh:∀l∈qy hj,l.length<=30:=by
 intro l hl
 simp only[qy,aeQ,afo]at hl
 rcases hl with rfl|rfl|rfl|rfl|rfl|⟨el,_,rfl⟩
 ·exact Bf _
 ·have:=xQ (ah post 0) (decide (ah post 1=1)) (ah post 2);unfold a2X;omega
 ·have:=iU (ah pre 7);omega
 ·have:=iU (ah pre 8);omega
 ·have:=iU (ah pre 6);omega
 ·exact Bf _
theorem acg:Lens (AU 13 (5+els.length)) (dF hj).rho (dF hj).sig:=y5 (AQ hj) rfl (jS hj) (GN hj)
theorem a8u {i:Nat}(h:i<13):(dF hj).rho i=ah (aW pre els post) i:=sV (by rw[jS hj];exact h)
theorem Yb {j:Nat}{l:List UInt8}(h:(qy hj)[j]? =some l):(dF hj).sig (13+j)=l:=J4 (jS hj) h
theorem a1a {i:Nat}{el:List Value}(h:els[i]? =some el):(dF hj).sig (18+i)=KC el:=by
 rw[show 18+i=13+(5+i)by omega]
 refine Yb hj ?_
 rw[show 5+i=i+1+1+1+1+1 by omega]
 simp only[qy,aia]
 rw[aeT,h]
 rfl
theorem a1l {i:Nat}{el:List Value}(h:els[i]? =some el):el.length=5:=by have:=(hj.ops.kd i el h).len;simp[opK]at this;omega
theorem PO:∀{l:List (List Value)},(∀x∈l,x.length=5)->∀{i f:Nat} {el:List Value},l[i]? =some el->f<5->l.flatten[5*i+f]? =el[f]?
 |[],_,i,f,el,h,_=>by simp at h
 |x::l,hl,0,f,el,h,hf=>by
  simp only[agh,afI]at h
  subst h
  rw[afP,af5 (by rw[hl x (afh ..)];omega)]
  congr 1
  omega
 |x::l,hl,i+1,f,el,h,hf=>by
  simp only[aia]at h
  have hx:=hl x (afh ..)
  rw[afP,af7 (by omega),hx,show 5*(i+1)+f-5=5*i+f by omega]
  exact PO (λy hy=>hl y (afd _ hy)) h hf
theorem a4A {i f:Nat}{el:List Value}(h:els[i]? =some el)(hf:f<5):(dF hj).rho (18+els.length+5*i+f)=ah el f:=by
 have hall:∀x∈els,x.length=5:=λx hx=>by
  obtain⟨k,hk⟩:=afD hx
  exact a1l hj hk
 have h5:=a1l hj h
 have hx:el[f]? =some (el[f]'(by omega)):=aeK _
 have:(qx hj)[5*i+f]? =some (ah el f):=by
  unfold qx
  rw[aeT,PO hj hall h hf,hx]
  show some (bD _)=_
  unfold ah
  rw[hx]
 rw[show 18+els.length+5*i+f=13+(5+els.length)+(5*i+f)by omega]
 exact jG (jS hj) (GN hj) this
theorem PX {i:Nat}{el:List Value}(h:els[i]? =some el):au (@VS (dF hj) r0) (elT els.length i) el/\∀r,au (@VS (dF hj) r) (elT els.length i) el:=by
 have key:∀r,au (@VS (dF hj) r) (elT els.length i) el:=λr=>by
  have rc:∀f,f<5->(dF hj).rho (18+els.length+5*i+f)=ah el f:=λf hf=>a4A hj h hf
  obtain⟨a,b,c,d,e,rfl⟩:=BD (hj.ops.kd i el h)
  refine⟨?_,?_,?_,?_,?_,trivial⟩
  ·show _=Value.int .u8 ((dF hj).rho (18+els.length+5*i));rw[show 18+els.length+5*i=18+els.length+5*i+0 by rfl,rc 0 (by decide)];rfl
  ·show _=Value.int .i64 ((dF hj).rho (18+els.length+5*i+1));rw[rc 1 (by decide)];rfl
  ·show _=Value.int .i64 ((dF hj).rho (18+els.length+5*i+1+1));rw[show 18+els.length+5*i+1+1=18+els.length+5*i+2 by omega,rc 2 (by decide)];rfl
  ·show _=Value.bool ([((18+els.length+5*i+1+1+1:Nat),(1:Int))].any λp=>decide ((dF hj).rho p.1=p.2))
   simp only[agz,List.any_nil,afL]
   rw[show 18+els.length+5*i+1+1+1=18+els.length+5*i+3 by omega,rc 3 (by decide)]
   cases d<;>rfl
  ·show _=Value.int .u8 ((dF hj).rho (18+els.length+5*i+1+1+1+1));rw[show 18+els.length+5*i+1+1+1+1=18+els.length+5*i+4 by omega,rc 4 (by decide)];rfl
 exact⟨key r0,key⟩
theorem MK {n:Nat}:∀(l:List Nat) {k:Nat} {i:N} {cs:List S},Tabs.H7 ⟨[],l.map λ(i:Nat)=>((0:Nat),N.c (i:Int),elT n i),[]⟩ k i=some cs->∃j∈l,k=0/\i=.c (j:Int)/\cs=elT n j
 |[],k,i,cs,h=>by cases h
 |j::l,k,i,cs,h=>by
  have h:(bif aib 0 k&&(N.c (j:Int)).eqv i then some (elT n j)else Tabs.H7 ⟨[],l.map λ(i:Nat)=>((0:Nat),N.c (i:Int),elT n i),[]⟩ k i)=some cs:=h
  cases hb:(aib 0 k&&(N.c (j:Int)).eqv i)<;>rw[hb]at h<;>simp only[aeW,aeS]at h
  ·obtain⟨j',h1,h2⟩:=MK l h
   exact⟨j',afd _ h1,h2⟩
  ·cases h
   simp only[aeI]at hb
   exact⟨j,afh ..,(aeX hb.1).symm,(N.y9 hb.2).symm,rfl⟩
theorem a3U:@bQ (dF hj) (tbT els.length):=by
 letI:Base:=dF hj
 refine⟨λl j h=>?_,λl i cs h=>?_,λi c j h=>(by cases h)⟩
 ·have h:(bif aib 0 l then some 9 else none)=some j:=h
  cases hb:aib 0 l<;>rw[hb]at h<;>cases h
  obtain⟨A,c,e⟩:=hj.ops.sl
  exact⟨A,els.length,c,e,by rw[a8u hj (by decide)];exact uG hj⟩
 ·obtain⟨k,hk,rfl,rfl,rfl⟩:=MK hj _ (show Tabs.H7 ⟨[],_,[]⟩ l i=some cs from h)
  have hk:=afs.1 hk
  have he:els[k]? =some els[k]:=aeK hk
  obtain⟨b,off,c,e,hc⟩:=hj.ops.at_ k _ he
  refine⟨b,off,els.length,c,els[k],e,by show(0:Int)<=(k:Int);omega,by show(k:Int)<_;omega,⟨by show els[((k:Nat):Int).toNat]? =_;rw[afO];exact he,λf u hf w1 hw=>?_⟩,?_⟩
  ·have hcell:=hc f u hf
   show w1.cell? ⟨b,off+((k:Nat):Int).toNat*5+f,none⟩=some u
   rw[afO]
   have hblk:w1.heap[b]? =w.heap[b]? :=hw b (ahK w ⟨b,off+k*5+f,none⟩ hcell)
   rw[<-hcell]
   exact ahI hblk
  ·have:=(PX hj he).2
   obtain⟨a,b,c,d,e,hel⟩:=BD (hj.ops.kd k _ he)
   rw[hel]at this |-
   exact⟨λr=>(this r).1,λr=>(this r).2.1,λr=>(this r).2.2.1,λr=>(this r).2.2.2.1,λr=>(this r).2.2.2.2.1,trivial⟩
end
theorem qJ (b0:Base)(l:List UInt8)(m:List Nat)(h:m.map UInt8.ofNat=l)(h2:m.all (λn=>Nat.blt n 256)=true):bW b0.sig m=l:=by rw[qU b0.sig h2,h]
theorem jd.frz {w w':World}{v:Value}{pre:List Value}{sv:Value}{post:List Value}{els:List (List Value)}(hj:jd w v pre sv post els)(hw:∀k,k<w.heap.size->w'.heap[k]? =w.heap[k]?):jd w' v pre sv post els:=by
 refine⟨hj.v,hj.pre,hj.post,⟨hj.ops.sl,hj.ops.most,λi el he=>?_,hj.ops.kd,hj.ops.cap⟩⟩
 obtain⟨b',off,c',e1,e2⟩:=hj.ops.at_ i el he
 refine⟨b',off,c',e1,λf u hf=>?_⟩
 have hcell:=e2 f u hf
 rw[<-hcell]
 exact ahI (hw b' (ahK w ⟨b',off+i*5+f,none⟩ hcell))
section
variable {w:World} {v:Value} {pre:List Value} {sv:Value} {post:List Value} {els:List (List Value)} (hj:jd w v pre sv post els)
include hj
theorem a00:au (@VA (dF hj) r0) [.g vT] [v]:=by
 letI:Base:=dF hj
 have hlenP:=ji hj
 refine⟨⟨pre++sv::post,hj.v,?_⟩,trivial⟩
 refine au.app ?_ ⟨?_,?_⟩
 ·exact lI (pre:=[]) (us:=pre) (post:=Value.int .i64 els.length::post++((qy hj).map SI++(qx hj).map (Value.int .i64))) rfl rfl (by simp[behind,aW]) hj.pre
 ·obtain⟨A,c,e⟩:=hj.ops.sl
  exact⟨A,els.length,c,e,e⟩
 ·have:=lI (r:=r0) (cs:=behind (aW pre els post) (qy hj) (qx hj)) (pre:=pre++[Value.int .i64 els.length]) (us:=post) (post:=(qy hj).map SI++(qx hj).map (Value.int .i64)) rfl rfl (by simp[behind,aW]) hj.post
  rw[aeL,hlenP]at this
  exact this
theorem Rn {R:Int×Int->List UInt8->Prop}{p:Int×Int}:∀{l:List (List UInt8)},(∀x∈l,R p x)->au R (List.replicate l.length p) l
 |[],_=>trivial
 |x::l,h=>⟨h x (afh ..),Rn λy hy=>h y (afd _ hy)⟩
theorem aaW:(Lf.xO [(true,kJ)] (List.replicate (5+els.length) (0,30)) []).Holds (dF hj).rho (dF hj).sig:=by
 have h1:=Rn hj (R:=λp (l:List UInt8)=>p.1<=(l.length:Int)/\(l.length:Int)<=p.2) (p:=((0:Int),(30:Int))) (l:=qy hj) λx hx=>by
  have:=Zh hj x hx
  constructor
  ·show(0:Int)<=_;omega
  ·show(x.length:Int)<=30;omega
 rw[GN hj]at h1
 exact Lf.Fh (AQ hj) h1 (i0:=[]) (i1:=qx hj) rfl trivial
theorem a0E (h:okJ pre els post=true):∃c:Nat,((c=1\/c=2\/c=3\/c=5)/\els=[]\/c=4/\els.length<9)/\ah pre 0=(c:Int)/\(c=2->(aY 0).val ((pre.drop 1).take 5)=true)/\(c=4->(dX 0).val post=true/\(els.all λel=>(aY 0).val el)=true)/\(LT c els.length).Holds (dF hj).rho (dF hj).sig:=by
 have r0:(dF hj).rho 0=ah pre 0:=(a8u hj (by decide)).trans (U7 hj (by decide))
 have r9:(dF hj).rho 9=els.length:=(a8u hj (by decide)).trans (uG hj)
 have hh:=aaW hj
 rcases isJ hj h with⟨k,_,_,_,l,_⟩|⟨k,a,_,_,_,l,_⟩|⟨k,_,l,_⟩|⟨k,_,_,_,_,l,d,o⟩
 ·exact⟨1,.inl ⟨.inl rfl,l⟩,k,λe=>(by cases e),λe=>(by cases e),Lf.Holds.xk hj hh (r0.trans k)⟩
 ·exact⟨2,.inl ⟨.inr (.inl rfl),l⟩,k,λ_=>a,λe=>(by cases e),Lf.Holds.xk hj hh (r0.trans k)⟩
 ·rcases k with k|k
  ·exact⟨3,.inl ⟨.inr (.inr (.inl rfl)),l⟩,k,λe=>(by cases e),λe=>(by cases e),Lf.Holds.xk hj hh (r0.trans k)⟩
  ·exact⟨5,.inl ⟨.inr (.inr (.inr rfl)),l⟩,k,λe=>(by cases e),λe=>(by cases e),Lf.Holds.xk hj hh (r0.trans k)⟩
 ·exact⟨4,.inr ⟨rfl,l⟩,k,λe=>(by cases e),λ_=>⟨d,o⟩,Lf.Holds.xk hj (Lf.Holds.xk hj hh (r0.trans k)) r9⟩
theorem VB:(dF hj).sig 15=gy (ah pre 7):=Yb hj (j:=2) rfl
theorem a9n:(dF hj).sig 16=gy (ah pre 8):=Yb hj (j:=3) rfl
theorem a9s:(dF hj).sig 17=gy (ah pre 6):=Yb hj (j:=4) rfl
theorem a8P:(dF hj).sig 13=KC ((pre.drop 1).take 5):=Yb hj (j:=0) rfl
theorem a99:(dF hj).sig 14=a2X post:=Yb hj (j:=1) rfl
theorem abh {c:Nat}(hc:(c=1\/c=2\/c=3\/c=5)/\els=[]\/c=4/\els.length<9)(k:ah pre 0=(c:Int)):bW (dF hj).sig (a7a c els.length)=zy pre els post:=by
 letI:Base:=dF hj
 have g1:bW (dF hj).sig a2S=a2Y:=qJ (dF hj) _ _ rfl rfl
 have g2:bW (dF hj).sig Nq=Oq:=qJ (dF hj) _ _ rfl rfl
 have g3:bW (dF hj).sig bN=bB:=qJ (dF hj) _ _ rfl rfl
 have g4:bW (dF hj).sig XE=VJ:=qJ (dF hj) _ _ rfl rfl
 have g5:bW (dF hj).sig a1B=a4z:=qJ (dF hj) _ _ rfl rfl
 have g6:bW (dF hj).sig fN=fB:=qJ (dF hj) _ _ rfl rfl
 have g7:bW (dF hj).sig a4n=a3a:=qJ (dF hj) _ _ rfl rfl
 have g8:bW (dF hj).sig U1=Og:=qJ (dF hj) _ _ rfl rfl
 have g9:bW (dF hj).sig Vf=V4:=qJ (dF hj) _ _ rfl rfl
 unfold zy
 rw[k]
 rcases hc with⟨rfl|rfl|rfl|rfl,_⟩|⟨rfl,hn⟩
 ·show bW (dF hj).sig (a2S++[256+15])=_
  rw[dI,iM,g1,VB hj]
  rfl
 ·show bW (dF hj).sig (Nq++([256+13]++(bN++([256+15]++(bN++[256+16])))))=_
  simp only[dI,iM,g2,g3,a8P hj,VB hj,a9n hj]
  rfl
 ·exact g4
 ·exact g5
 ·show bW (dF hj).sig ([256+14]++(fN++([256+17]++(a4n++(Dq U1 ((aic els.length).map λi=>[256+(18+i)])++(Vf++[256+15]))))))=_
  have hm:((aic els.length).map λi=>[256+(18+i)]).map (bW (dF hj).sig)=els.map KC:=by
   refine agT λi=>?_
   by_cases hi:i<els.length
   ·rw[agp,aeT,afH hi,aeT,aeK hi]
    show some (bW (dF hj).sig [256+(18+i)])=some _
    rw[iM,a1a hj (aeK hi)]
   ·rw[afT (by simp;omega),afT (by simp;omega)]
  simp only[dI,iM,wL,g6,g7,g8,g9,a99 hj,VB hj,a9s hj,hm]
  rfl
noncomputable def UQ (mk:S->V)(F:FuncId)(c n:Nat):Bool:=wZ (mk (S.wY (a7a c n))) (a9c F c n)
theorem a6H {mk:S->V}{val:List UInt8->Value}(hmk:∀(b0:Base) r l u,@VV b0 r (mk (S.wY l)) u->u=val (bW b0.sig l)){F:FuncId}(h0:([1,2,3,5].all λc=>UQ mk F c 0)=true)(h4:((aic 9).all λn=>UQ mk F 4 n)=true)(kt:iq w)(hok:okJ pre els post=true):Calls Tryz.prog F #[v] w λx w'=>x=.returned (val (zy pre els post))/\Below w.heap.size w w':=by
 obtain⟨c,hc,k,hA,hC,hL⟩:=a0E hj hok
 have hrun:UQ mk F c els.length=true:=by
  rcases hc with⟨hc,e⟩|⟨rfl,hn⟩
  ·rw[e]
   exact aeV.1 h0 c (by rcases hc with rfl|rfl|rfl|rfl<;>simp)
  ·exact aeV.1 h4 _ (afs.2 hn)
 have hKok:aC ((LT c els.length).know (AU 13 (5+els.length))) (dF hj).rho (dF hj).sig:=Lf.ok hL (acg hj)
 letI bL:Base:=(dF hj).aF ((LT c els.length).know (AU 13 (5+els.length))) hKok
 have hca:au (@VA bL r0) (([.g vT]:List A).map (LT c els.length).nA) [v]:=@Lf.xU bL _ r0 hL _ _ (a00 hj)
 have frz:∀w':World,(∀k,k<bL.nb->w'.heap[k]? =bL.g k)->jd w' v pre sv post els/\iq w':=λw' hw=>⟨hj.frz hw,kt.all λk hk=>hw k (by have:=kt.size;show k<w.heap.size;omega)⟩
 have num:∀i,i<9->qM[i]? =some (.i .i64)->-9223372036854775808<=ah pre i/\ah pre i<=9223372036854775807:=λi hi hk=>by
  obtain⟨x,hx,n,hn,h0,h1⟩:=acQ hj i hi hk
  subst hn
  unfold ah
  rw[hx]
  exact⟨h0,h1⟩
 have pY:∀(i s:Nat),i<9->qM[i]? =some (.i .i64)->bL.sig s=gy (ah pre i)->
   @Sound bL Tryz.prog (nJ 68 [.s (.xi .i64 i)] (mS1 (.xs [256+s]))):=λi s hi hk hs=>by
  obtain⟨n0,n1⟩:=num i hi hk
  have hr:bL.rho i=ah pre i:=(a8u hj (by omega)).trans (U7 hj hi)
  have hv:au (@VA bL r0) [.s (.xi .i64 i)] [.int .i64 (ah pre i)]:=⟨congrArg (Value.int .i64) hr.symm,trivial⟩
  have hu:∀r,@VV bL r (mS1 (.xs [256+s])) (vS1 (gy (ah pre i))):=λr=>by
   show Value.string _=Value.string ⟨(bW bL.sig [256+s]).toArray⟩
   rw[@iM,hs]
  exact @fM bL _ _ ⟨_,Tryz.func68,by kernel_rfl,by kernel_rfl⟩ _ _ rfl _ hv _ hu λw' hw=>JG n0 n1 (frz w' hw).2
 have vv2:∀(s:Nat) (l:List UInt8),bL.sig s=l->∀r,@VV bL r (mS2 (.xs [256+s])) (vS2 l):=λs l h r=>by
  refine⟨[_,_],rfl,?_,rfl,trivial⟩
  show Value.string _=Value.string ⟨(bW bL.sig [256+s]).toArray⟩
  rw[@iM,h]
 have vv1:∀(s:Nat) (l:List UInt8),bL.sig s=l->∀r,@VV bL r (mS1 (.xs [256+s])) (vS1 l):=λs l h r=>by
  show Value.string _=Value.string ⟨(bW bL.sig [256+s]).toArray⟩
  rw[@iM,h]
 have vW:∀(l:List S),l.all S.one=true->(([.g l]:List A).all A.vW)=true:=λl h=>by
  show(l.all S.vW&&true)=true
  rw[afg]
  refine aeV.2 λx hx=>?_
  have:=aeV.1 h x hx
  cases x<;>first |exact this|rfl
 have hS0:@Sound bL Tryz.prog (FB (Y1 c els.length)):=by
  refine @kD bL _ _ λO hO=>?_
  unfold Y1 at hO
  rcases afl.1 hO with hO|hO
  ·unfold a0B at hO
   rcases afl.1 hO with hO|hO
   ·simp only[aeQ,aeZ,afj]at hO
    rcases hO with rfl|rfl
    ·exact @fM bL _ _ ⟨_,Tryz.func80,by kernel_rfl,by kernel_rfl⟩ _ _ (cells_one _) _ hca (v8 true) (λ_=>rfl) λw' hw=>by
      have:=BO w' v pre sv post els (frz w' hw).1
      rw[hok]at this
      exact this
    ·exact @fM bL _ _ ⟨_,Tryz.func85,by kernel_rfl,by kernel_rfl⟩ _ _ (cells_one _) _ hca (.bool true) (λ_=>rfl) λw' hw=>by
      have:=Sj w' v pre sv post els (frz w' hw).1
      rw[hok]at this
      exact this
   ·simp only[ag0,agI,aft,ag9,agx,aeQ,aeZ,afj]at hO
    rcases hO with rfl|rfl|rfl
    ·exact pY 7 15 (by decide) rfl (VB hj)
    ·exact pY 8 16 (by decide) rfl (a9n hj)
    ·exact pY 6 17 (by decide) rfl (a9s hj)
  ·have flatP:aW pre els post=pre++Value.int .i64 els.length::post:=rfl
   cases h2:aib c 2 with
   |true=>
    rw[h2]at hO
    have hv:=hA (aeX h2)
    have hk:au Kd.ok opK ((pre.drop 1).take 5):=(hj.pre.drop 1).take 5
    have cl:au (@VS bL r0) (clL (LT c els.length) 1 opK) ((pre.drop 1).take 5):=@Ai bL _ hL (behind (aW pre els post) (qy hj) (qx hj)) rfl rfl opK ((pre.drop 1).take 5) (pre.take 1) (pre.drop 6++(Value.int .i64 els.length::post++((qy hj).map SI++(qx hj).map (Value.int .i64)))) 1 (by
     have key:∀X:List Value,pre++X=pre.take 1++((pre.drop 1).take 5++(pre.drop 6++X)):=λX=>by
      rw[show pre.drop 6=(pre.drop 1).drop 5 by rw[List.drop_drop],<-af9 ((pre.drop 1).take 5),agc,<-af9,agc]
     show(pre++(Value.int .i64 els.length::post))++_=_
     rw[af9]
     exact key _) (by rw[afu,ji hj];decide) hk
    have hva:au (@VA bL r0) [.g (clL (LT c els.length) 1 opK)] [.agg ((pre.drop 1).take 5).toArray]:=⟨⟨_,rfl,cl⟩,trivial⟩
    simp only[aeW,a4r,aeQ,aeZ,afj]at hO
    rcases hO with rfl
    exact @fM bL _ _ ⟨_,Tryz.func121,by kernel_rfl,by kernel_rfl⟩ _ _ (vW _ (mQ _ opK 1 rfl)) _ hva _ (vv2 13 _ (a8P hj)) λw' hw=>IJ _ hk hv w' (frz w' hw).2
   |false=>
    rw[h2]at hO
    cases h4:aib c 4 with
    |false=>rw[h4]at hO;cases hO
    |true=>
     rw[h4]at hO
     obtain⟨hd,ho⟩:=hC (aeX h4)
     have cl:au (@VS bL r0) (clL (LT c els.length) 10 kPl) post:=@Ai bL _ hL (behind (aW pre els post) (qy hj) (qx hj)) rfl rfl kPl post (pre++[Value.int .i64 els.length]) ((qy hj).map SI++(qx hj).map (Value.int .i64)) 10 (by
      unfold behind aW
      simp only[af9,ag9,agx]) (by simp[ji hj]) hj.post
     have hva:au (@VA bL r0) [.g (clL (LT c els.length) 10 kPl)] [.agg post.toArray]:=⟨⟨_,rfl,cl⟩,trivial⟩
     simp only[aeW,aeS]at hO
     rcases afl.1 hO with hO|hO
     ·simp only[a3n,aeQ,aeZ,afj]at hO
      rcases hO with rfl
      exact @fM bL _ _ ⟨_,Tryz.func23,by kernel_rfl,by kernel_rfl⟩ _ _ (vW _ (mQ _ kPl 10 rfl)) _ hva _ (vv2 14 _ (a99 hj)) λw' hw=>UO _ hj.post hd w' (frz w' hw).2
     ·rcases afl.1 hO with hO|hO
      ·obtain⟨i,hi,hO⟩:=agK.1 hO
       have hi:=afs.1 hi
       have he:els[i]? =some els[i]:=aeK hi
       have hk:=hj.ops.kd i _ he
       have hv:=aeV.1 ho _ (agl hi)
       have hva:au (@VA bL r0) [.g (elT els.length i)] [.agg els[i].toArray]:=⟨⟨_,rfl,(PX hj he).1⟩,trivial⟩
       simp only[aeQ,aeZ,afj]at hO
       rcases hO with rfl
       exact @fM bL _ _ ⟨_,Tryz.func121,by kernel_rfl,by kernel_rfl⟩ _ _ (vW _ rfl) _ hva _ (vv2 (18+i) _ (a1a hj he)) λw' hw=>IJ _ hk hv w' (frz w' hw).2
      ·obtain rfl:=aeR.1 hO
       exact RZ bL
 have hS:@Sound bL Tryz.prog (@qR ((LT c els.length).know (AU 13 (5+els.length))) (oq Tryz.prog) (pJ Tryz.prog) (FB (Y1 c els.length)) (tbT els.length) (λ_ _ _ _=>none) 30 15):=
  @yF bL _ _ (@yJ bL Tryz.prog) _ WA _ hS0 GV _ (bQ.aF (a3U hj) _) _ (λf F cd _ _=>Loops.wJ (λc=>@aO.none bL _ c) cd) 30 15
 obtain⟨h',hr⟩:=yL hrun
 refine(@je bL _ w (aeM _) (λ_ _=>rfl) _ hS F _ _ hca _ _ hr).mono λx w' ⟨u,r',e1,e2,e3⟩=>⟨?_,e3⟩
 rw[e1,hmk bL r' _ u e2,show bW bL.sig (a7a c els.length)=zy pre els post from abh hj hc k]
theorem a9U {F:FuncId}(h0:([1,2,3,5].all λc=>Oc F c 0)=true)(h4:((aic 9).all λn=>Oc F 4 n)=true)(kt:iq w)(hok:okJ pre els post=true):Calls Tryz.prog F #[v] w λx w'=>x=.returned (vS2 (zy pre els post))/\Below w.heap.size w w':=a6H hj OO h0 h4 kt hok
end
theorem ab3:aak 103:=λw v pre sv post els kt hj hok=>a9U hj TB QB kt hok
theorem KT {b:Nat}(sep:List UInt8):∀{l:List (List UInt8)},(∀x∈l,x.length<=b)->(qB sep l).length<=l.length*(b+sep.length)
 |[],_=>by simp[qB]
 |[x],h=>by have:=h x (afh ..);simp[qB];omega
 |x::y::r,h=>by
  have h1:=h x (afh ..)
  have h2:=KT sep (l:=y::r) λz hz=>h z (afd _ hz)
  have e1:(qB sep (x::y::r)).length=x.length+sep.length+(qB sep (y::r)).length:=by simp[qB];omega
  rw[e1,show(x::y::r).length=(y::r).length+1 by rfl,ahD]
  omega
theorem Zr {pre post:List Value}{els:List (List Value)}(h:els.length<9):(zy pre els post).length<=1000:=by
 have h1:=iU (ah pre 6);have h2:=iU (ah pre 7);have h3:=iU (ah pre 8)
 have h4:=Bf (EJ ((pre.drop 1).take 5) 0)
 have h5:(a2X post).length<=25:=xQ _ _ _
 have h6:(qB Og (els.map KC)).length<=(els.map KC).length*(30+2):=KT (b:=30) Og λx hx=>by
  obtain⟨el,_,rfl⟩:=afo.1 hx
  exact Bf _
 rw[af4]at h6
 have e4:(KC ((pre.drop 1).take 5)).length<=30:=h4
 unfold zy
 split
 ·simp only[aeL];have:a2Y.length=6:=rfl;omega
 ·split
  ·simp only[aeL];have:Oq.length=7:=rfl;have:bB.length=2:=rfl;omega
  ·split
   ·decide
   ·split
    ·decide
    ·simp only[aeL]
     have:fB.length=5:=rfl;have:a3a.length=1:=rfl;have:V4.length=3:=rfl
     omega
