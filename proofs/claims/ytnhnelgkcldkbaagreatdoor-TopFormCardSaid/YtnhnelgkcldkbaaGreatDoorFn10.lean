/- fnshape.made answers by madeF. -/
import Derived.Test.YtnhnelgkcldkbaaGreatDoorFn5
set_option linter.all false
set_option maxRecDepth 100000
noncomputable section
open List renaming range → aia, replicate → aib
namespace Go.Proofs.YtnhnelgkcldkbaaGreatDoor
namespace Am
open Go.RowKit
theorem AV {pre post:List Value}{els:List (List Value)}(hp:pre.length=9)(h:okJ pre els post=true):els.length<=8:=by
 have e9:∀l,ah (aW pre els post++l) 9=(els.length:Int):=λl=>by
  unfold ah aW
  rw[af9,af7 (by omega),hp]
  rfl
 unfold okJ at h
 rw[E.iD]at h
 generalize hl:(kV pre els post).map (Value.int .i64)=l at h
 have e9:=e9 l
 generalize hv:aW pre els post++l=vs at h e9
 simp only[Uu,E.num,E.ands,zs,CB,afJ,aeI,af6,afz,agV,agG]at h
 rcases h with h|h|h|h
 ·have:=aeV.1 h.2.2.2 1 (by decide)
  simp only[Function.comp,af6]at this
  rw[show(8+1:Nat)=9 from rfl]at this
  omega
 ·have:=aeV.1 h.2.2.2.2.2 0 (by decide)
  simp only[Function.comp,af6]at this
  rw[show(9+0:Nat)=9 from rfl]at this
  omega
 ·have:=aeV.1 h.2 8 (by decide)
  simp only[Function.comp,af6]at this
  rw[show(1+8:Nat)=9 from rfl]at this
  omega
 ·have:=h.2.2.2.2.2.1
  omega
end Am
namespace made
open Go.RowKit Am
section
variable {w:World} {v:Value} {D:FnD} (h:aZ w v D)
include h
theorem a5e (hL:D.ls.length<=16)(hB:D.bs.length<=24)(hS:∀b∈D.bs,b.st.length<=24):bM f [v] w (.bool (kT D)):=by
 have hS':∀b∈D.bs,b.st.length<=1000/\(xJ b=true->b.ops.length<=1000):=λb hb=>⟨by have:=hS b hb;omega,λe=>by
  have h1:=(h.blk b hb).rJ.len
  have h2:=AV (by rw[<-h1];rfl) e
  omega⟩
 have out:=λr (m:List Int)=>outer h r (m:=m) (λ_=>trivial) (by omega) hS'
 let a:Bool:=D.bs.all (NC D.ls.length D.bs.length)
 let m:Bool->List Int:=λr=>[0,b2i (r&&a)]
 have lib:∀r hb,head.ny D=hb->∀K (ok:aC K (fnB w D (atB 0) (m r)).rho (fnB w D (atB 0) (m r)).sig),@Sound ((fnB w D (atB 0) (m r)).aF K ok) Tryz.prog (a6P hb K):=λr hb e=>
  BI h ⟨_,Tryz.func160,by kernel_rfl,by kernel_rfl⟩ (λb0 r=>vmB b0 r hb) (atB 0) (m r) λw' hw=>e▸head.a2K hw (by omega)
 have LMh:∀r,LM.Holds (aA (aH D (atB 0) (m r))) (λ_=>[]):=λr=>lC h (q:=atB 0) (fD (by omega)) (iv:=[ivB,ivB]) (m1:=[0,b2i (r&&a)]) (m2:=[]) ⟨⟨by decide,by decide⟩,sG _,trivial⟩ _
 have good:∀r hb,head.ny D=hb->D.bs.all okB=true->jJ Tryz.prog (dG (a6P hb) cu λK=>dV [(f,zo r (.exit 0) sNO K)]) (fnB w D (atB 0) (m r)):=λr hb e hok=>
  fV (lib r hb e) (aS h _ _) (rows_ok (T:=λK=>[(f,zo r (.exit 0) sNO K)]) λK ok p hp=>by
   obtain rfl:=aeR.1 hp
   exact⟨F,Tryz.func105,λc hc=>iH PU ((out r (m r)).1 hok rfl K ok) hc⟩)
 have bad:∀r hb,head.ny D=hb->D.bs.all okB=false->jJ Tryz.prog (dG (a6P hb) cu λK=>dV [(f,zo r .ret sRO K)]) (fnB w D (atB 0) (m r)):=λr hb e hok=>
  fV (lib r hb e) (aS h _ _) (rows_ok (T:=λK=>[(f,zo r .ret sRO K)]) λK ok p hp=>by
   obtain rfl:=aeR.1 hp
   exact⟨F,Tryz.func105,λc hc=>iH PU ((out r (m r)).2 hok K ok) hc⟩)
 have ans:∀r x,@VV (fnB w D (atB 0) (m r)) x (V.s (.xe [(78,1)]))=λu=>u=.bool (r&&a):=λr x=>by
  funext u
  show(u=.bool (decide (aA (aH D (atB 0) (m r)) (77+1)=1)||false))=_
  rw[eu,afL]
  show(u=.bool (decide (b2i (r&&a)=1)))=_
  rw[eG]
 cases hok:D.bs.all okB with
 |false=>
  have hm:kT D=false:=by unfold kT;rw[hok];simp
  rw[hm]
  cases hb:head.ny D with
  |false=>exact jM h aej (bad false false hb hok) (LMh false) (aK D _ _) (λp hp=>by cases hp) (λr x hx=>hx)
  |true=>
   by_cases hn:0<D.bs.length
   ·exact jM h ae1 (bad true true hb hok) ((LMh true).lo (i:=3) (c:=1) (show(1:Int)<=(D.bs.length:Int)by omega)) (aK D _ _) (λp hp=>by cases hp) (λr x hx=>hx)
   ·exact jM h aew (bad false true hb hok) ((LMh false).hi (i:=3) (c:=0) (show(D.bs.length:Int)<=0 by omega)) (aK D _ _) (λp hp=>by cases hp) (λr x hx=>hx)
 |true=>
  have hm:kT D=(head.ny D&&(decide (0<D.bs.length)&&a)):=by unfold kT;rw[hok,afY]
  rw[hm]
  cases hb:head.ny D with
  |false=>exact jM h acC (good false false hb hok) (LMh false) (aK D _ _) (λp hp=>by cases hp) (λr x hx=>by rw[ans]at hx;exact hx)
  |true=>
   by_cases hn:0<D.bs.length
   ·rw[afn hn]
    exact jM h good1 (good true true hb hok) ((LMh true).lo (i:=3) (c:=1) (show(1:Int)<=(D.bs.length:Int)by omega)) (aK D _ _) (λp hp=>by cases hp) (λr x hx=>by rw[ans]at hx;exact hx)
   ·rw[af2 hn]
    exact jM h adD (good false true hb hok) ((LMh false).hi (i:=3) (c:=0) (show(D.bs.length:Int)<=0 by omega)) (aK D _ _) (λp hp=>by cases hp) (λr x hx=>by rw[ans]at hx;exact hx)
end
end made
namespace Am
open Go.RowKit
def nK (f:Nat->Int):List Int:=(aia 16).map f
def cZ:List (Nat->Int)->List Int
 |[]=>[]
 |f::r=>nK f++cZ r
theorem Le (f:Nat->Int):(nK f).length=16:=by simp[nK]
theorem I7:∀fs:List (Nat->Int),(cZ fs).length=16*fs.length
 |[]=>rfl
 |f::r=>by rw[cZ,aeL,Le,I7 r,afi];omega
theorem Et:∀(fs:List (Nat->Int)) (tail:List Int) (b j:Nat) (f:Nat->Int),fs[b]? =some f->j<16->aA (cZ fs++tail) (16*b+j)=f j
 |[],_,b,j,f,h,_=>by simp at h
 |g::r,tail,0,j,f,h,hj=>by
  cases h
  rw[Nat.mul_zero,afK,cZ,af9]
  unfold aA nK
  rw[af8,af5 (by simpa using hj),aeT,afH hj]
  rfl
 |g::r,tail,b+1,j,f,h,hj=>by
  rw[cZ,af9,show 16*(b+1)+j=16+(16*b+j)by omega,kR (Le g)]
  exact Et r tail b j f (by simpa using h) hj
theorem S9 (fs:List (Nat->Int))(tail:List Int)(j:Nat):aA (cZ fs++tail) (16*fs.length+j)=aA tail j:=kR (I7 fs)
def nm (b j:Nat):Nat:=77+(16*b+j)
def bV (b:Nat):List S:=(aia 16).map λj=>.xi .i64 (nm b j)
def lH (b:Nat):List S:=(aia 16).map λj=>.xe [(nm b j,1)]
structure Cnt where
 src:Nat
 dst:Nat
 l:Nat
 m:Nat
def trX (T:List Cnt):x9:={ dW.xt with ld:=T.map λt=>(bV t.src,t.l,t.m),sr:=T.map λt=>(bV t.src,t.l,t.m+1,bV t.dst) }
def NQ (T:List Cnt):Fx:=⟨T.map λt=>(t.m,1,t.m+1),trX T⟩
def bump (F:Nat->Int)(l:Int)(j:Nat):Int:=F j+b2i (decide (l=j))
structure a1k (rho:Nat->Int)(t:Cnt):Prop where
 ex:∃F:Nat->Int,(∀j,j<16->rho (nm t.src j)=F j)/\(∀j,j<16->rho (nm t.dst j)=bump F (rho t.l) j)/\rho t.m=F (rho t.l).toNat/\rho (t.m+1)=rho t.m+1
 lo:-9223372036854775808<=rho (t.m+1)
 hi:rho (t.m+1)<=9223372036854775807
theorem qY {b j:Nat}{c:S}(h:(bV b)[j]? =some c):j<16/\c=.xi .i64 (nm b j):=by
 have hj:j<16:=by have:=(aeU.1 h).1;simpa[bV]using this
 unfold bV at h
 rw[aeT,afH hj]at h
 cases h
 exact⟨hj,rfl⟩
theorem BF {T:List Cnt}{rho:Nat->Int}(h0:vJ dW rho)(h:∀t∈T,a1k rho t):vJ (NQ T) rho:=by
 refine⟨λi c k hm=>?_,⟨h0.xt.lf,h0.xt.sm,λcs i m hm j c hc hj=>?_,λcs i m ds hm=>?_,h0.xt.eq⟩⟩
 ·have hm:(i,c,k)∈T.map λt=>(t.m,(1:Int),t.m+1):=hm
  obtain⟨t,ht,e⟩:=afo.1 hm
  cases e
  have k:=h t ht
  obtain⟨F,_,_,_,e⟩:=k.ex
  exact⟨e.symm,k.lo,k.hi⟩
 ·have hm:(cs,i,m)∈T.map λt=>(bV t.src,t.l,t.m):=hm
  obtain⟨t,ht,e⟩:=afo.1 hm
  cases e
  obtain⟨F,h1,_,h3,_⟩:=(h t ht).ex
  obtain⟨hj',rfl⟩:=qY hc
  show some (rho (nm t.src j))=some (rho t.m)
  rw[h1 j hj',h3,hj,afO]
 ·have hm:(cs,i,m,ds)∈T.map λt=>(bV t.src,t.l,t.m+1,bV t.dst):=hm
  obtain⟨t,ht,e⟩:=afo.1 hm
  cases e
  obtain⟨F,h1,h2,h3,h4⟩:=(h t ht).ex
  refine⟨by simp[bV],λj c d hc hd=>?_⟩
  obtain⟨hj,rfl⟩:=qY hc
  obtain⟨_,rfl⟩:=qY hd
  refine⟨F j,by show some _=some _;rw[h1 j hj],?_⟩
  show some (rho (nm t.dst j))=some _
  rw[h2 j hj]
  unfold bump
  by_cases e:rho t.l=(j:Int)
  ·rw[afm e,afn e,h4,h3,e,afO]
   rfl
  ·rw[afc e,af2 e]
   show some (F j+0)=_
   rw[Int.add_zero]
theorem gG {D:FnD}{q:At}{fs:List (Nat->Int)}{tail:List Int}{b:Nat}{f:Nat->Int}(h:fs[b]? =some f){j:Nat}(hj:j<16):aA (aH D q (cZ fs++tail)) (nm b j)=f j:=by
 show aA _ (77+(16*b+j))=_
 rw[eu,Et fs tail b j f h hj]
theorem CQ {D:FnD}{q:At}{fs:List (Nat->Int)}{tail:List Int}{n:Nat}(hn:fs.length=n)(j:Nat):aA (aH D q (cZ fs++tail)) (77+(16*n+j))=aA tail j:=by
 rw[eu,<-hn,S9]
def adC (b:Nat)(es:List E)(pick:List Bool->Nat)(j:Nat):Upd:=⟨.xi .i64 (nm b j),es,λbs=>.xi .i64 (nm (pick bs) j)⟩
def oM (b:Nat)(es:List E)(pick:List Bool->Nat):List Upd:=(aia 16).map (adC b es pick)
theorem dL {b1 b2:Base}{b:Nat}{es:List E}{pick:List Bool->Nat}(h:∀j,j<16->b1.rho (nm (pick (es.map (E.num b1.rho))) j)=b2.rho (nm b j)):∀u∈oM b es pick,iQ b1 b2 u:=by
 intro u hu r v hv
 obtain⟨j,hj,rfl⟩:=afo.1 hu
 have hv:v=.int .i64 (b1.rho (nm (pick (es.map (E.num b1.rho))) j)):=hv
 show v=.int .i64 (b2.rho (nm b j))
 rw[hv,h j (afs.1 hj)]
def Ot (b src l:Nat)(e:E):List Upd:=(aia 16).map λj=>⟨.xe [(nm b j,1)],[e],λbs=>bif bs.headD false then .xe [(l,(j:Int)),(nm src j,1)]else .xe [(nm src j,1)]⟩
theorem DK {b1 b2:Base}{b src l:Nat}{e:E}(h:∀j,j<16->(b2.rho (nm b j)=1↔((e.num b1.rho=true/\b1.rho l=(j:Int))\/b1.rho (nm src j)=1))):∀u∈Ot b src l e,iQ b1 b2 u:=by
 intro u hu r v hv
 obtain⟨j,hj,rfl⟩:=afo.1 hu
 have hj:=afs.1 hj
 have hv:@VS b1 r (bif e.num b1.rho then .xe [(l,(j:Int)),(nm src j,1)]else .xe [(nm src j,1)]) v:=hv
 show v=.bool (decide (b2.rho (nm b j)=1)||false)
 rw[afL]
 have hk:=h j hj
 by_cases he:e.num b1.rho=true
 ·rw[he,aeW]at hv
  have hv:v=.bool (decide (b1.rho l=(j:Int))||(decide (b1.rho (nm src j)=1)||false)):=hv
  rw[hv,afL]
  congr 1
  by_cases h1:b1.rho l=(j:Int)<;>by_cases h2:b1.rho (nm src j)=1<;>simp[h1,h2,he]at hk |- <;>simp[hk]
 ·rw[Bool.not_eq_true]at he
  rw[he,aeS]at hv
  have hv:v=.bool (decide (b1.rho (nm src j)=1)||false):=hv
  rw[hv,afL]
  congr 1
  by_cases h2:b1.rho (nm src j)=1<;>simp[h2,he]at hk |- <;>simp[hk]
def qF (b:Nat):List Upd:=(aia 16).map λj=>isU (.xi .i64 (nm b j)) (.int .i64 0)
theorem wH {b1 b2:Base}{b:Nat}(h:∀j,j<16->b2.rho (nm b j)=0):∀u∈qF b,iQ b1 b2 u:=by
 intro u hu r v hv
 obtain⟨j,hj,rfl⟩:=afo.1 hu
 have hv:v=.int .i64 0:=hv
 show v=.int .i64 (b2.rho (nm b j))
 rw[hv,h j (afs.1 hj)]
def y7 (b:Nat):List Upd:=(aia 16).map λj=>isU (.xe [(nm b j,1)]) (.bool false)
theorem xA {b1 b2:Base}{b:Nat}(h:∀j,j<16->b2.rho (nm b j)=0):∀u∈y7 b,iQ b1 b2 u:=by
 intro u hu r v hv
 obtain⟨j,hj,rfl⟩:=afo.1 hu
 have hv:v=.bool false:=hv
 show v=.bool (decide (b2.rho (nm b j)=1)||false)
 rw[hv,h j (afs.1 hj)]
 rfl
def jk (b src:Nat):List Upd:=oM b [] λ_=>src
def lJ (b src:Nat):List Upd:=(aia 16).map λj=>isU (.xe [(nm b j,1)]) (.xe [(nm src j,1)])
theorem iF {b1 b2:Base}{b src:Nat}(h:∀j,j<16->b1.rho (nm src j)=b2.rho (nm b j)):∀u∈lJ b src,iQ b1 b2 u:=by
 intro u hu
 obtain⟨j,hj,rfl⟩:=afo.1 hu
 exact made.RV (h j (afs.1 hj))
theorem eF {b1 b2:Base}{us vs:List Upd}(h:∀u∈us,iQ b1 b2 u)(k:∀u∈vs,iQ b1 b2 u):∀u∈us++vs,iQ b1 b2 u:=λu hu=>(afl.1 hu).elim (h u) (k u)
theorem IL {P:Program}{b bo:Base}{c:Code}{hd:Nat->St}{s1:St}{x:X}(hx:x≠.normal){N:Nat}(step:∀k,k<N->gY P b b c (hd k) .normal (hd (k+1)))(last:gY P b bo c (hd N) x s1):
  ∀m k,k+m=N->∀{r:Ren} {B:Nat} {a:Act} {w:World},@Rel b (hd k) r B a w->∀(f:Frame) (K:List Item) (cs:List Frame),
   ∃e a' w',Goes bo B (hd k).h r a w x s1 e a' w'/\Arrives P (lone (f.at a (.code c::.inLoop c::K)) cs w) f K cs e a' w'
 |0,k,hk,r,B,a,w,hr,f,K,cs=>by
  obtain rfl:k=N:=by omega
  obtain⟨e,a1,w1,ho,harr⟩:=last.go _ _ _ _ hr f (.inLoop c::K) cs
  refine⟨e,a1,w1,ho,.pass (x:=.inLoop c) rfl (λ_ _=>.inl ?_) harr⟩
  intro he
  subst he
  cases x<;>simp[Goes,XR]at ho
  exact hx rfl
 |m+1,k,hk,r,B,a,w,hr,f,K,cs=>by
  obtain⟨e,a1,w1,⟨h3,r1,h4,h5,h6⟩,harr⟩:=(step k (by omega)).go _ _ _ _ hr f (.inLoop c::K) cs
  cases e<;>simp only[XR]at h3
  obtain⟨e2,a2,w2,⟨k3,r2,k4,k5,k6⟩,harr2⟩:=IL hx step last m (k+1) (by omega) h4 f K cs
  exact⟨e2,a2,w2,⟨k3,r2,k4,Adv.trans' (Parts.ok hr).dom (Parts.ok h4).dom h5 k5,k6.trans h6⟩,.of_steps (Steps.trans harr (.one step_inLoop)) harr2⟩
theorem CS {P:Program}{bo b:Base}{c:Code}{d:Bd}{us:List Upd}{hd:Nat->St}{s1:St}{x:X}(hx:x≠.normal){N:Nat}(ag:Agree bo b d)(hu:∀u∈us,iQ bo b u)
  (step:∀k,k<N->gY P b b c (hd k) .normal (hd (k+1))) (last:gY P b bo c (hd N) x s1) (tag:Nat) (K:Know) (ok:aC K bo.rho bo.sig):@aO (bo.aF K ok) P (jh tag d (@thU K us) (hd 0) x s1) c:=by
 intro fl B s s' y r a w hr hl
 unfold jh at hl
 cases hc:(Nat.beq c.tag tag&&Nat.beq fl 0&&Nat.beq s.h.next (hd 0).h.next&&wV d (@thU K us) (hd 0) s)<;>rw[hc]at hl<;>simp only[aeW,aeS]at hl
 ·cases hl
 cases hl
 simp only[aeI]at hc
 obtain⟨⟨⟨_,hf⟩,hnx⟩,hfit⟩:=hc
 obtain rfl:=aeX hf
 have hnx:=aeX hnx
 obtain⟨k1,k2⟩:=yw (ag.aF ok) (@Ue (bo.aF K ok) b us hu) hfit hr
 have hadv:=k2 (Parts.ok hr).n hnx (@Adv.refl (bo.aF K ok) 0 s.h r B w (@Rel.i (bo.aF K ok) _ _ _ _ _ hr)) (λl _ h=>absurd h (ag7 l))
 intro f K' cs
 obtain⟨e,a',w',⟨g1,r',g2,g3,g4⟩,harr⟩:=IL hx step last N 0 (by omega) k1 f K' cs
 exact⟨e,a',w',⟨g1,r',Rel.aF bo ok g2,Adv.trans' (Parts.ok hr).dom (Parts.ok k1).dom hadv g3,g4⟩,.of_steps (.one step_loop) harr⟩
end Am
namespace twos
open Go.RowKit Am
def f:FuncId:=106
def F:Func:=Tryz.f106
def fO:FuncId:=199
def FO:Func:=Tryz.f199
def gJ:Code:=dZ F 0
def bD:Code:=dZ F 1
def iE:Code:=dZ F 2
def iR:Code:=dZ FO 0
def on:S:=.fn 164 [(2,0),(3,0)]
def hpT (a p s i:Nat):Hp:=[(4,⟨bV s,true⟩),(3,⟨bV p,true⟩),(2,⟨bV a,true⟩),(1,⟨lH i,true⟩),(0,⟨bK,true⟩)]
def keep:List (Nat×S):=[(1,.ptr 0 0),(2,.ptr 1 0),(4,.ptr 2 0),(5,.ptr 3 0),(6,.ptr 4 0)]
def Lr:List (Nat×S):=keep++[(7,on),(16,.rv 1),(17,.xi .i64 3)]
def xP:List (Nat×S):=Lr++[(18,.xi .i64 4),(9,.ptr 5 0)]
def hpB (a p s i:Nat):Hp:=(5,⟨lU,true⟩)::hpT a p s i
def hdO:St:=⟨iP F.ntmps (Lr++[(18,.xi .i64 4)]),⟨hpT 0 1 2 3,5⟩⟩
def hdI:St:=⟨iP F.ntmps (xP++[(23,.rv 3),(24,.xi .i64 7),(25,.xi .i64 21)]),⟨hpB 0 1 2 3,6⟩⟩
def sNI:St:=⟨iP F.ntmps xP,⟨hpB 4 5 6 7,6⟩⟩
def sNO:St:=⟨iP F.ntmps keep,⟨hpT 0 1 2 3,5⟩⟩
def yh:List E:=[isE 0 3,.and (.or (isE 0 2) (isE 0 4)) (.not (isE 20 1)),isE 0 1,.and (isE 0 1) (.or (isE 4 4) (isE 4 5)),ands [isE 0 1,.not (.or (isE 4 4) (isE 4 5)),.not (isE 7 1)],ands [isE 0 1,.not (.or (isE 4 1) (.or (isE 4 4) (isE 4 5))),.not (isE 12 1)]]
def jK:List Bool->Nat
 |[f,sa,p,rp,ra,rb]=>bif f then 1 else bif sa then 2 else bif p then(bif rp then 4 else bif ra then(bif rb then 6 else 5)else bif rb then 7 else 3)else 0
 |_=>0
def rowOf (s:Nat):Nat:=bif Nat.beq s 0 then 0 else 3+s
def Jv:E:=ands [isE 0 1,isE 4 1,isE 7 3,isE 10 0,isE 11 0]
def FC:E:=ands [isE 0 1,isE 4 4,isE 6 3]
def xq (e:E):E:=e.ren (24+·)
def abP:E:=ands [xq FC,isE 26 0,isE 27 0,.not (isE 75 1)]
def trI:List Cnt:=[⟨0,4,49,285⟩,⟨0,5,46,287⟩,⟨0,6,25,289⟩,⟨6,7,41,291⟩,⟨6,8,33,293⟩,⟨8,9,38,295⟩,⟨6,10,38,297⟩,⟨1,11,33,299⟩,⟨2,12,25,301⟩]
def usI:List Upd:=isU (.xi .i64 21) (.xi .i64 22)::(oM 0 (yh.map xq) (λbs=>rowOf (jK bs))++(oM 1 [xq Jv] (λbs=>bif bs.headD false then 11 else 1)++(oM 2 [abP] (λbs=>bif bs.headD false then 12 else 2)++Ot 3 3 25 (xq FC))))
def ZQ (k:Nat)(t:HT):HT:=.by k 1 t (.by k 2 t t)
def a9R:HT:=.by 31 1 .leaf (.by 31 2 .leaf (.by 31 3 .leaf (.by 31 4 (.both 34 1 (.both 35 1 .leaf)) .leaf)))
def adN:HT:=.by 30 3 .leaf (.by 30 4 (.both 26 1 (.both 27 1 (.both 75 1 .leaf))) .leaf)
def asT:HT:=.on 28 1 .leaf (.on 28 2 a9R (.on 28 3 (ZQ 31 (ZQ 36 .leaf)) (.on 28 4 (ZQ 31 (ZQ 36 .leaf)) (.on 28 5 adN (.on 28 6 .leaf .leaf)))))
def stT:HT:=.on 24 1 .leaf (.on 24 2 asT (.on 24 3 (ZQ 44 .leaf) (.on 24 4 .leaf (.on 24 5 (ZQ 44 .leaf) .leaf))))
def mG (L:Lf)(i:Nat):Lf:=(L.lo i 0).hi i 15
def LI (L:Lf):Lf:=mG (mG (mG (mG (mG (mG L 49) 25) 33) 38) 41) 46
def L1:Lf:=LI (((Lf.of (eH++[])).pin 6 1).pin 23 1)
def L3:Lf:=((Lf.of (eH++[])).pin 6 1).pin 23 0
def tbI:Tabs:=cu.app (iJ.app Ym)
theorem lq:aG (dQ (dG gU tbI bg) f (NQ trI) [(YU,true)] usI ⟨21,0,5⟩ bD hdI .normal hdI) stT L1=true:=by kernel_rfl
theorem JB:aG (dQ (dG gU (cu.app iJ) bg) f dW [] (jk 4 0++(jk 5 1++(jk 6 2++lJ 7 3))) ⟨21,0,5⟩ bD hdI (.exit 2) sNI) .leaf L3=true:=by kernel_rfl
def hdA:St:=⟨iP FO.ntmps [(1,.bool true),(2,on),(8,.rv 4),(9,.xi .i64 17),(10,.xi .i64 50)],⟨[(3,⟨bV 1,true⟩),(2,⟨bV 0,true⟩),(4,⟨bV 4,true⟩),(1,⟨lH 5,true⟩),(0,⟨bK,true⟩)],8⟩⟩
def sNA:St:=⟨iP FO.ntmps [],⟨hpT 10 11 6 7,8⟩⟩
def trA:List Cnt:=[⟨0,2,55,173⟩,⟨1,3,55,175⟩]
def Bv:E:=.not (isE 53 1)
def Qp:E:=ands [isE 53 3,isE 56 0,isE 57 0]
def usA:List Upd:=isU (.xi .i64 50) (.xi .i64 51)::(oM 0 [Bv] (λbs=>bif bs.headD false then 2 else 0)++(oM 1 [Qp] (λbs=>bif bs.headD false then 3 else 1)++(jk 4 4++lJ 5 5)))
def aeo:HT:=.by 53 1 .leaf (.by 53 2 .leaf (.by 53 3 .leaf (.by 53 4 (.both 56 1 (.both 57 1 .leaf)) .leaf)))
def LA:Lf:=mG (((Lf.of (eH++[])).pin 6 1).pin 52 1) 55
def LA0:Lf:=((Lf.of (eH++[])).pin 6 1).pin 52 0
theorem CJ:aG (dQ (dG gU (cu.app (iJ.app a2s)) bg) fO (NQ trA) [] usA ⟨21,0,5⟩ iR hdA .normal hdA) aeo LA=true:=by kernel_rfl
theorem JK:aG (dQ (dG gU (cu.app iJ) bg) fO dW [] (jk 10 0++(jk 11 1++(jk 6 4++lJ 7 5))) ⟨21,0,5⟩ iR hdA (.exit 0) sNA) .leaf LA0=true:=by kernel_rfl
def trO:List Cnt:=[⟨4,8,11,269⟩,⟨4,9,18,271⟩]
def us0:List Upd:=isU (.xi .i64 21) (.int .i64 0)::(jk 0 0++(jk 1 1++(jk 2 2++lJ 3 3)))
def us1:List Upd:=isU (.xi .i64 50) (.int .i64 0)::(jk 0 9++(jk 1 5++(jk 4 6++lJ 5 7)))
def pY (K:Know):Loops:=jh 8 ⟨21,0,5⟩ (@thU K us0) hdI (.exit 2) sNI
def rowA (K:Know):Loops:=jh 2 ⟨21,0,5⟩ (@thU K us1) hdA (.exit 0) sNA
def XU (K:Know):FuncId->Loops:=dV [(f,pY K),(fO,rowA K)]
def brN:E:=.and (isE 8 2) (.not (isE 9 1))
def caN:E:=isE 8 4
def usO:List Upd:=isU (.xi .i64 4) (.xi .i64 5)::(oM 0 [brN,caN] (λbs=>bif bs.headD false then 8 else bif (bs.drop 1).headD false then 10 else 4)++(oM 1 [caN] (λbs=>bif bs.headD false then 11 else 5)++(jk 2 6++lJ 3 7)))
def outT:HT:=.on 8 2 .leaf (.on 8 3 (.by 9 1 .leaf (.by 9 2 .leaf .leaf)) (.on 8 4 .leaf (.on 8 5 .leaf .leaf)))
def LO:Lf:=mG (mG ((Lf.of (eH++[])).pin 6 1) 11) 18
def LO0:Lf:=(Lf.of (eH++[])).pin 6 0
theorem IZ:aG (dQ (dG gU (cu.app iJ) XU) f (NQ trO) [] usO ⟨4,0,3⟩ gJ hdO .normal hdO) outT LO=true:=by kernel_rfl
theorem Jq:aG (dQ (dG gU cu bg) f dW [] (jk 0 0++(jk 1 1++(jk 2 2++lJ 3 3))) ⟨4,0,3⟩ gJ hdO (.exit 0) sNO) .leaf LO0=true:=by kernel_rfl
def frT:Fr:=upd sNO.fr 75 (V.g (lH 3))
def hdT (t:Nat):St:=⟨upd frT 76 (V.s (.int .i64 t)),⟨hpT 0 1 2 3,5⟩⟩
def sNT:St:=⟨frT,⟨hpT 0 1 2 3,5⟩⟩
def sRT:St:=⟨upd frT 3 (V.s (.bool false)),⟨hpT 0 1 2 3,5⟩⟩
def XP (t:Nat):E:=imp (isE (nm 3 t) 1) (ands [.lt 0 t,isE (nm 0 t) 2,isE (nm 1 t) 1,isE (nm 2 t) 1])
def XF (t:Nat):HT:=.by (nm 3 t) 1 .leaf (.by 0 t (.by (nm 0 t) 2 .leaf (.by (nm 0 t) 3 (.by (nm 1 t) 1 .leaf (.by (nm 1 t) 2 (.by (nm 2 t) 1 .leaf (.by (nm 2 t) 2 .leaf .leaf)) .leaf)) .leaf)) .leaf)
def Fv:Int×Int:=(-9223372036854775808,9223372036854775807)
def LT:Lf:=Lf.of (eH++(aib 48 Fv++aib 16 ivB))
def a1C (t:Nat):Bool:=aG (dQ (dG gU cu bg) f dW [(XP t,true)] [] ⟨141,0,3⟩ iE (hdT t) .normal (hdT (t+1))) (XF t) LT
def ab1 (t:Nat):Bool:=aG (dQ (dG gU cu bg) f dW [(XP t,false)] [] ⟨141,0,3⟩ iE (hdT t) .ret sRT) (XF t) LT
theorem stepT:((aia 16).all a1C)=true:=by kernel_rfl
theorem a4k:((aia 16).all ab1)=true:=by kernel_rfl
theorem PS:aG (dQ (dG gU cu bg) f dW [] [] ⟨141,0,3⟩ iE (hdT 16) (.exit 4) sNT) .leaf LT=true:=by kernel_rfl
def adg (K:Know):Loops:=jh 5 ⟨4,0,3⟩ (@thU K (isU (.xi .i64 4) (.int .i64 0)::(qF 0++(qF 1++(qF 2++y7 3))))) hdO (.exit 0) sNO
def rowT (x:X)(s1:St)(K:Know):Loops:=jh 19 ⟨141,0,3⟩ (@thU K []) (hdT 0) x s1
def a2u (x:X)(s1:St)(K:Know):FuncId->Loops:=dV [(f,adg K),(f,rowT x s1 K)]
def aa6 (r:Bool):V:=.t [.g (lH 3),.s (.bool r)]
theorem acL:aG (lu (dG gU cu (a2u (.exit 4) sNT)) f dW [] [] (λ_=>aa6 true) [.g bK]) .leaf LT=true:=by kernel_rfl
theorem sF:aG (lu (dG gU cu (a2u .ret sRT)) f dW [] [] (λ_=>aa6 false) [.g bK]) .leaf LT=true:=by kernel_rfl
theorem PU:fU (F.body.getD .skip) 0 5=true:=by kernel_rfl
theorem Nv:fU gJ 0 8=true:=by kernel_rfl
theorem Dc:fU (F.body.getD .skip) 1 8=true:=by kernel_rfl
theorem a0t:fU (F.body.getD .skip) 2 19=true:=by kernel_rfl
theorem OU:fU (FO.body.getD .skip) 0 2=true:=by kernel_rfl
end twos
namespace Am
open Go.RowKit
def acc {α:Type}(f:α->Int):List α->Int
 |[]=>0
 |x::r=>f x+acc f r
theorem Xl {α:Type}(f:α->Int):∀a b:List α,acc f (a++b)=acc f a+acc f b
 |[],b=>by simp[acc]
 |x::a,b=>by rw[ag9,acc,acc,Xl f a b];omega
theorem nH {α:Type}(f:α->Int)(l:List α)(d:α){k:Nat}(hk:k<l.length):acc f (l.take (k+1))=acc f (l.take k)+f (l.getD k d):=by
 rw[afN hk,Xl,af8,aeK hk]
 simp[acc]
theorem qp {α:Type}(f:α->Int)(c:Nat):∀l:List α,(∀x∈l,0<=f x/\f x<=c)->0<=acc f l/\acc f l<=((c*l.length:Nat):Int)
 |[],_=>by simp[acc]
 |x::r,h=>by
  obtain⟨h1,h2⟩:=h x (by simp)
  obtain⟨h3,h4⟩:=qp f c r λy hy=>h y (by simp[hy])
  rw[acc,afi,ahu]
  omega
theorem eU (b:Bool):0<=b2i b/\b2i b<=1:=by cases b<;>decide
def cnt (ls:List Int)(j:Nat):Int:=acc (λl=>b2i (decide (l=(j:Int)))) ls
theorem AB {F:Nat->Int}{l:Int}{M:Int}(h:∀j,0<=F j/\F j<=M):∀j,0<=bump F l j/\bump F l j<=M+1:=λj=>by
 have:=h j
 have:=eU (decide (l=(j:Int)))
 unfold bump
 omega
theorem kC {D:FnD}{q:At}{fs:List (Nat->Int)}{tail:List Int}{t:Cnt}{n N:Nat}{F:Nat->Int}(hn:fs.length=N)(h1:fs[t.src]? =some F)(h2:fs[t.dst]? =some (bump F (aA (aH D q (cZ fs++tail)) t.l)))(hm:t.m=77+(16*N+n))
  (e0:aA tail n=F (aA (aH D q (cZ fs++tail)) t.l).toNat) (e1:aA tail (n+1)=F (aA (aH D q (cZ fs++tail)) t.l).toNat+1) {M:Int} (hb:∀j,0<=F j/\F j<=M) (hM:M<=1000000):a1k (aA (aH D q (cZ fs++tail))) t:=by
 have m0:aA (aH D q (cZ fs++tail)) t.m=F (aA (aH D q (cZ fs++tail)) t.l).toNat:=by rw[hm,CQ hn,e0]
 have m1:aA (aH D q (cZ fs++tail)) (t.m+1)=F (aA (aH D q (cZ fs++tail)) t.l).toNat+1:=by
  rw[hm,show 77+(16*N+n)+1=77+(16*N+(n+1))by omega,CQ hn,e1]
 have hb:=hb (aA (aH D q (cZ fs++tail)) t.l).toNat
 exact⟨⟨F,λj hj=>gG h1 hj,λj hj=>gG h2 hj,m0,by rw[m1,m0]⟩,by rw[m1];omega,by rw[m1];omega⟩
def noT (giv:List (E×Bool))(L:Lf):Bool:=@IG (L.ig ⟨[],x9.nought⟩) giv
theorem cannot {giv:List (E×Bool)}{t:HT}{L0:Lf}{rho:Nat->Int}(h:aG (noT giv) t L0=true)(h0:L0.Holds rho (λ_=>[]))(hg:∀p∈giv,p.1.num rho=p.2):False:=by
 obtain⟨L,hL,ht⟩:=pI h h0
 have ok:aC (L.ig ⟨[],x9.nought⟩) rho (λ_=>[]):=Lf.okX hL ⟨λ_ _ _ h=>(by cases h),vK.nought _⟩
 let b:Base:=Base.known (L.ig ⟨[],x9.nought⟩) ok 0 default
 have:=@AZ b giv hg
 unfold noT at ht
 rw[show @IG (L.ig ⟨[],x9.nought⟩) giv=false from this]at ht
 cases ht
theorem ab6 {k:Kd}{v:Value}(h:k.ok v)(hk:k≠.s):-9223372036854775808<=bD v/\bD v<=18446744073709551615:=by
 cases k with
 |s=>exact absurd rfl hk
 |b=>obtain⟨b,rfl⟩:=h;cases b<;>decide
 |i k=>
  obtain⟨n,rfl,h1,h2⟩:=h
  have:-9223372036854775808<=k.min/\k.max<=18446744073709551615:=by cases k<;>decide
  show -9223372036854775808<=n/\n<=_
  omega
def ivU (n:Nat):List (Int×Int):=aib n (-9223372036854775808,18446744073709551615)
theorem zN {n:Nat}{ks:List Kd}{us:List Value}(h:au Kd.ok ks us)(hs:(ks.all λk=>match k with | .s=>false|_=>true)=true):(Lf.of (ivU n)).Holds (ah us) (λ_=>[]):=
 Lf.a2A λi p hp=>by
  have hi:=(aeU.1 hp).1
  rw[ivU,List.length_replicate]at hi
  unfold ivU at hp
  rw[agv,afm hi]at hp
  cases hp
  cases hu:us[i]? with
  |none=>unfold ah;rw[hu];exact⟨by decide,by decide⟩
  |some u=>
   have hl:=h.len
   have hlt:=(aeU.1 hu).1
   obtain⟨u',hu',ok⟩:=au.nth h (n:=i) (x:=ks[i]'(by omega)) (by rw[aI];exact aeK _)
   rw[hu]at hu'
   cases hu'
   unfold ah
   rw[hu]
   refine ab6 ok λe=>?_
   have:=aeV.1 hs (ks[i]'(by omega)) (agl _)
   rw[e]at this
   cases this
def Vt (e:E)(n c:Nat):Bool:=aG (noT [(e,true)]) .leaf ((Lf.of (ivU n)).lo c 16)&&aG (noT [(e,true)]) .leaf ((Lf.of (ivU n)).hi c (-1))
theorem PY {e:E}{n c:Nat}(hr:Vt e n c=true){ks:List Kd}{us:List Value}(h:au Kd.ok ks us)(hs:(ks.all λk=>match k with | .s=>false|_=>true)=true)(hv:e.num (ah us)=true):0<=ah us c/\ah us c<=15:=by
 unfold Vt at hr
 rw[aeI]at hr
 have hg:∀p∈[(e,true)],p.1.num (ah us)=p.2:=λp hp=>by obtain rfl:=aeR.1 hp;exact hv
 constructor
 ·apply afy
  intro hc
  exact cannot hr.2 ((zN h hs).hi (by omega)) hg
 ·apply afy
  intro hc
  exact cannot hr.1 ((zN h hs).lo (by omega)) hg
theorem acI:([25,1,9,14,17,22].all (Vt dK 26))=true:=by kernel_rfl
theorem Cm {st:List Value}(h:au Kd.ok zk st)(hv:dK.val st=true){c:Nat}(hc:c∈[25,1,9,14,17,22]):0<=ah st c/\ah st c<=15:=
 PY (aeV.1 acI c hc) h rfl ((E.iD _ _).symm.trans hv)
theorem acv:Vt (aY 0) 5 2=true:=by kernel_rfl
theorem J7 {op:List Value}(h:au Kd.ok opK op)(hv:(aY 0).val op=true):0<=ah op 2/\ah op 2<=15:=PY acv h rfl ((E.iD _ _).symm.trans hv)
def ab2 (a b:E):E:=.or (.and a b) (.and (.not a) (.not b))
def jmG:List (E×Bool):=[(Uu,true),(ab2 (isE 14 1) (aY 1),true),(ab2 (isE 15 1) (dX 10),true)]
def jmT:HT:=.both 14 1 (.both 14 2 (.both 15 1 (.both 15 2 .leaf)))
def BU (L:Lf):Bool:=aG (noT jmG) jmT L
theorem aeE:(BU ((Lf.of (ivU 16)).lo 3 16)&&(BU ((Lf.of (ivU 16)).hi 3 (-1))&&(BU ((Lf.of (ivU 16)).lo 10 16)&&BU ((Lf.of (ivU 16)).hi 10 (-1)))))=true:=by kernel_rfl
theorem aev:BU (((Lf.of (ivU 16)).pin 13 0).lo 9 1)=true:=by kernel_rfl
theorem pG {a b:E}{rho:Nat->Int}(h:a.num rho=b.num rho):(ab2 a b).num rho=true:=by
 show((a.num rho&&b.num rho)||(!a.num rho&&!b.num rho))=true
 rw[h]
 cases b.num rho<;>rfl
theorem Bz {w:World}{v:Value}{pre:List Value}{sv:Value}{post:List Value}{els:List (List Value)}(hj:jd w v pre sv post els)(h:okJ pre els post=true):
  (0<=ah pre 3/\ah pre 3<=15)/\(0<=ah post 0/\ah post 0<=15)/\((els.all λel=>(aY 0).val el)=true\/els.length=0):=by
 have hl:=jS hj
 have lp:=ji hj
 let us:List Value:=aW pre els post++(kV pre els post).map (Value.int .i64)
 have hk:au Kd.ok (kJ++[.i .i64,.i .i64,.i .i64]) us:=(sW hj).app ⟨⟨_,rfl,by have:=eU (els.all λel=>(aY 0).val el);show(-9223372036854775808:Int)<=_;omega,by have:=eU (els.all λel=>(aY 0).val el);show _<=(9223372036854775807:Int);omega⟩,⟨_,rfl,by have:=eU ((aY 1).val (aW pre els post));show(-9223372036854775808:Int)<=_;omega,by have:=eU ((aY 1).val (aW pre els post));show _<=(9223372036854775807:Int);omega⟩,⟨_,rfl,by have:=eU ((dX 10).val (aW pre els post));show(-9223372036854775808:Int)<=_;omega,by have:=eU ((dX 10).val (aW pre els post));show _<=(9223372036854775807:Int);omega⟩,trivial⟩
 have h0:(Lf.of (ivU 16)).Holds (ah us) (λ_=>[]):=zN hk rfl
 have ea:∀i,i<13->ah us i=ah (aW pre els post) i:=λi hi=>jy (by omega)
 have eb:∀j m,(kV pre els post)[j]? =some m->ah us (13+j)=m:=λj m hm=>by
  show ah (aW pre els post++_) _=_
  rw[lg hl]
  unfold ah
  rw[aeT,hm]
  rfl
 have e13:ah us 13=b2i (els.all λel=>(aY 0).val el):=eb 0 _ rfl
 have e14:ah us 14=b2i ((aY 1).val (aW pre els post)):=eb 1 _ rfl
 have e15:ah us 15=b2i ((dX 10).val (aW pre els post)):=eb 2 _ rfl
 have sm:∀e:E,e.bd 13=true->e.num (ah us)=e.val (aW pre els post):=λe he=>by
  rw[E.iD]
  exact(E.jD (f:=λi=>i) he ea▸by
   congr 1
   clear he
   induction e with
   |lt i c=>rfl
   |zero l=>simp[E.ren]
   |and a b ha hb=>rw[E.ren,<-ha,<-hb]
   |or a b ha hb=>rw[E.ren,<-ha,<-hb]
   |not a ha=>rw[E.ren,<-ha])
 have one:∀i c,(isE i c).num (ah us)=decide (ah us i=c):=λi c=>by show(decide _&&true)=_;rw[afg]
 have hg:∀p∈jmG,p.1.num (ah us)=p.2:=λp hp=>by
  simp only[jmG,aeQ,aeZ,afj]at hp
  rcases hp with rfl|rfl|rfl
  ·unfold okJ at h
   rw[E.iD]at h
   exact h
  ·refine pG ?_
   rw[one,e14,made.eG,sm _ rfl]
  ·refine pG ?_
   rw[one,e15,made.eG,sm _ rfl]
 have c3:ah us 3=ah pre 3:=(ea 3 (by decide)).trans (by unfold aW;exact jy (by omega))
 have c10:ah us 10=ah post 0:=(ea 10 (by decide)).trans (by
  unfold aW
  rw[show 10=9+1 from rfl,lg lp]
  rfl)
 have c9:ah us 9=els.length:=(ea 9 (by decide)).trans (uG hj)
 have r1:=aeE
 simp only[aeI]at r1
 obtain⟨r1,r2,r3,r4⟩:=r1
 refine⟨⟨?_,?_⟩,⟨?_,?_⟩,?_⟩
 ·apply afy;intro hc;exact cannot r2 (h0.hi (by omega)) hg
 ·apply afy;intro hc;exact cannot r1 (h0.lo (by omega)) hg
 ·apply afy;intro hc;exact cannot r4 (h0.hi (by omega)) hg
 ·apply afy;intro hc;exact cannot r3 (h0.lo (by omega)) hg
 ·cases hb:(els.all λel=>(aY 0).val el)with
  |true=>exact .inl rfl
  |false=>
   refine .inr (afy λhc=>?_)
   rw[hb]at e13
   exact cannot aev ((h0.pin (i:=13) (c:=0) e13).lo (i:=9) (c:=1) (by rw[c9];omega)) hg
