/- Cases of a law's arguments. -/
import Derived.Test.YtnhnelgkcldkbaaGreatDoorAmB
set_option linter.all false
open Nat renaming beq → aia, blt → aib
open List renaming range → aie
namespace Go.Proofs.YtnhnelgkcldkbaaGreatDoor
namespace Am
open Go.RowKit
noncomputable section
structure Lf where
 iv:List (Int×Int)
 ne:List (Nat×Nat)
 lt:List (Nat×Nat)
 to:List Nat
 st:List (Nat×List Nat)
 sn:List (Nat×List Nat)
 cf:List (List (Nat×Int))
def Lf.rep (L:Lf)(i:Nat):Nat:=Option.rec i (λj=>j) (nth L.to i)
def mxL (ss:List Nat):Nat->List (Int×Int)->List Nat
 |_,[]=>[]
 |i,p::r=>(bif Ky i ss then p.2.toNat else 21)::mxL ss (i+1) r
theorem a4D (ss:List Nat):∀(l:List (Int×Int)) (i j m:Nat),nth (mxL ss i l) j=some m->∃p,nth l j=some p/\m=bif Ky (i+j) ss then p.2.toNat else 21
 |[],_,_,_,h=>by simp[mxL,Bh]at h
 |p::r,i,0,m,h=>by simp only[mxL,oN,afI]at h;exact⟨p,rfl,h.symm⟩
 |p::r,i,j+1,m,h=>by
  simp only[mxL,oK]at h
  obtain⟨q,h1,h2⟩:=a4D ss r (i+1) j m h
  exact⟨q,h1,by rw[h2,show i+1+j=i+(j+1)by omega]⟩
theorem Gt {i:Nat}:∀{l:List Nat},Ky i l=true↔i∈l
 |[]=>by simp[Ky]
 |x::l=>by
  have ih:=Gt (i:=i) (l:=l)
  show(aia x i||Ky i l)=true↔_
  rw[afJ,ih,aeQ,Nat.beq_eq]
  exact⟨λh=>h.imp Eq.symm id,λh=>h.imp Eq.symm id⟩
@[reducible] def Lf.BZ (L : Lf) : Know := ⟨L.iv, [], [], [], [], [], [], [], [], [], [], [], x9.nought⟩
@[reducible] def Lf.know (L : Lf)(ss : List Nat) : Know := ⟨L.iv, L.ne, L.lt, mxL ss 0 L.iv, L.sn.map λp => ([256 + p.1], p.2, false), ss.map λi => ([256 + i], i), L.cf, [], [], [], [], [], x9.nought⟩
structure Lf.Holds (L:Lf)(rho:Nat->Int)(sig:Nat->List UInt8):Prop where
 iv:∀i p,nth L.iv i=some p->p.1<=rho i/\rho i<=p.2
 ne:∀i j,(i,j)∈L.ne->rho i≠rho j
 lt:∀i j,(i,j)∈L.lt->rho i<rho j
 to:∀i j,nth L.to i=some j->rho i=rho j
 st:∀i l,(i,l)∈L.st->sig i=bW sig l
 sn:∀i l,(i,l)∈L.sn->sig i≠bW sig l
 cf:∀m,m∈L.cf->(m.all λp=>decide (rho p.1=p.2))=false
structure Lens (ss:List Nat)(rho:Nat->Int)(sig:Nat->List UInt8):Prop where
 all:∀i,i∉ss->(sig i).length<=21
 ss:∀i,i∈ss->rho i=(sig i).length
theorem iM (sig:Nat->List UInt8)(i:Nat):bW sig [256+i]=sig i:=by
 have h:aib (256+i) 256=false:=Bool.eq_false_iff.2 λh=>by
  rw[afM]at h
  omega
 have e:256+i-256=i:=by omega
 simp only[bW,h,aeS,aft,e]
theorem Lf.ok {L:Lf}{ss:List Nat}{rho:Nat->Int}{sig:Nat->List UInt8}(h:L.Holds rho sig)(k:Lens ss rho sig):aC (L.know ss) rho sig where
 iv:=h.iv
 ne i j e:=h.ne i j (pU e)
 lt i j e:=h.lt i j (pU e)
 mx i m e:=by
  obtain⟨p,hp,rfl⟩:=a4D ss L.iv 0 i m e
  obtain⟨h1,h2⟩:=h.iv i p hp
  rw[afK]
  cases hm:Ky i ss with
  |true=>
   have:=k.ss i (Gt.1 hm)
   simp only[aeW]
   omega
  |false=>exact k.all i λh'=>by rw[Gt.2 h']at hm;cases hm
 sq a b r e:=by
  have e:(a,b,r)∈L.sn.map λp=>([256+p.1],p.2,false):=e
  simp only[afo,agf]at e
  obtain⟨p,hp,rfl,rfl,rfl⟩:=e
  rw[iM]
  exact af2 (h.sn _ _ hp)
 ln a j e:=by
  have e:(a,j)∈ss.map λi=>([256+i],i):=e
  simp only[afo,agf]at e
  obtain⟨i,hi,rfl,rfl⟩:=e
  rw[iM]
  exact k.ss _ hi
 cf:=h.cf
 df _ _ _ h:=by cases h
 sx _ _ _ h:=by cases h
 ct _ _ _ _ h:=by cases h
 sb _ _ _ h:=by cases h
 ad _ _ _ h:=by cases h
 xt:=vK.nought _
theorem Lf.ok0 {L:Lf}{rho:Nat->Int}{sig:Nat->List UInt8}(h:L.Holds rho sig):aC L.BZ rho sig:=
 ⟨h.iv,λi j h=>(by cases h),λi j h=>(by cases h),λi m h=>(by cases h),λa b r h=>(by cases h),λa j h=>(by cases h),λm h=>(by cases h),λ_ _ _ h=>(by cases h),λ_ _ _ h=>(by cases h),λ_ _ _ _ h=>(by cases h),λ_ _ _ h=>(by cases h),λ_ _ _ h=>(by cases h),vK.nought _⟩
def Lf.str (L:Lf)(i:Nat):Option (List Nat):=List.rec none (λp _ ih=>bif aia p.1 i then some p.2 else ih) L.st
def Lf.xs (L:Lf):List Nat->List Nat:=List.rec [] λn _ ih=>(bif aib n 256 then[n]else Option.rec [n] (λl=>l) (L.str (n-256)))++ih
def S.wY (l:List Nat):S:=bif l.all (λn=>aib n 256)then .str (l.map UInt8.ofNat)else .xs l
def S.a6h (k:IntKind)(i:Nat)(p:Option (Int×Int)):S:=Option.rec (.xi k i) (λp=>bif decide (p.1=p.2)then .int k p.1 else .xi k i) p
def S.a5G (l:List (Nat×Int))(b:Option Bool):S:=Option.rec (.xe l) (λb=>.bool b) b
def Lf.nS (L:Lf)(x:S):S:=match x with
 | .xi k i=>.a6h k (L.rep i) (nth L.iv (L.rep i))
 | .xe l=>.a5G (l.map λp=>(L.rep p.1,p.2)) (@zX L.BZ (l.map λp=>(L.rep p.1,p.2)))
 | .xs l=>.wY (L.xs l)
 |x=>x
def Lf.nA (L:Lf)(x:A):A:=match x with
 | .s x=>.s (L.nS x)
 | .g l=>.g (l.map L.nS)
section
variable [Base] {L:Lf}
theorem Lf.Uk {rho:Nat->Int}{sig:Nat->List UInt8}(h:L.Holds rho sig)(i:Nat):rho (L.rep i)=rho i:=by
 unfold Lf.rep
 cases hi:nth L.to i with
 |none=>rfl
 |some j=>exact(h.to i j hi).symm
theorem Lf.ab8 {rho:Nat->Int}{sig:Nat->List UInt8}(h:L.Holds rho sig){i:Nat}{l:List Nat}(e:L.str i=some l):sig i=bW sig l:=by
 refine h.st i l ?_
 unfold Lf.str at e
 generalize L.st=st at e |-
 induction st with
 |nil=>cases e
 |cons p t ih=>
  have e:(bif aia p.1 i then some p.2 else List.rec none (λp _ ih=>bif aia p.1 i then some p.2 else ih) t:Option (List Nat))=some l:=e
  cases hc:aia p.1 i<;>rw[hc]at e<;>simp only[aeW,aeS]at e
  ·simp[ih e]
  ·cases e
   rw[<-aeX hc]
   simp
theorem dI (sig:Nat->List UInt8):∀a b:List Nat,bW sig (a++b)=bW sig a++bW sig b
 |[],_=>rfl
 |n::a,b=>by simp only[ag9,bW,dI sig a b,af9]
theorem Lf.a9C {rho:Nat->Int}{sig:Nat->List UInt8}(h:L.Holds rho sig):∀l:List Nat,bW sig (L.xs l)=bW sig l
 |[]=>rfl
 |n::l=>by
  show bW sig ((bif aib n 256 then[n]else Option.rec [n] (λl=>l) (L.str (n-256)))++L.xs l)=_
  rw[dI,Lf.a9C h l]
  simp only[bW]
  congr 1
  cases hn:aib n 256 with
  |true=>simp[bW,hn]
  |false=>
   simp only[aeS]
   cases hs:L.str (n-256)with
   |none=>simp[bW,hn]
   |some m=>exact(Lf.ab8 h hs).symm
theorem qU (sig:Nat->List UInt8):∀{l:List Nat},l.all (λn=>aib n 256)=true->bW sig l=l.map UInt8.ofNat
 |[],_=>rfl
 |n::l,h=>by
  simp only[afz,aeI]at h
  simp[bW,h.1,qU sig h.2]
theorem Lf.QV {r:Ren}(h:L.Holds Base.rho Base.sig){x:S}{v:Value}(hv:VS r x v):VS r (L.nS x) v:=by
 cases x with
 |xi kd i=>
  cases hv
  show VS r (.a6h kd (L.rep i) (nth L.iv (L.rep i))) _
  rw[<-Lf.Uk h i]
  cases hp:nth L.iv (L.rep i)with
  |none=>rfl
  |some p=>
   show VS r (bif decide (p.1=p.2)then .int kd p.1 else .xi kd (L.rep i)) _
   have:=h.iv _ _ hp
   cases hd:decide (p.1=p.2)with
   |false=>rfl
   |true=>
    simp only[af6]at hd
    show _=_
    congr 1
    omega
 |xe l=>
  cases hv
  have e:(l.any λp=>decide (Base.rho p.1=p.2))=((l.map λp=>(L.rep p.1,p.2)).any λp=>decide (Base.rho p.1=p.2)):=by
   rw[List.any_map]
   congr 1
   funext p
   simp only[Function.comp,Lf.Uk h]
  rw[e]
  show VS r (.a5G (l.map λp=>(L.rep p.1,p.2)) (@zX L.BZ (l.map λp=>(L.rep p.1,p.2)))) _
  cases hb:@zX L.BZ (l.map λp=>(L.rep p.1,p.2))with
  |none=>rfl
  |some b=>
   exact congrArg Value.bool (@G6 (Base.known L.BZ (Lf.ok0 h) 0 default) _ _ hb)
 |xs l=>
  cases hv
  show VS r (.wY (L.xs l)) _
  rw[<-Lf.a9C h l]
  unfold S.wY
  cases hp:(L.xs l).all (λn=>aib n 256)with
  |false=>rfl
  |true=>show _=_;rw[qU _ hp]
 |_=>exact hv
theorem Lf.Gx {r:Ren}(h:L.Holds Base.rho Base.sig):∀{l:List S} {vs:List Value},au (VS r) l vs->au (VS r) (l.map L.nS) vs
 |[],[],_=>trivial
 |x::l,v::vs,hv=>⟨Lf.QV h hv.1,Lf.Gx h hv.2⟩
 |[],_::_,h=>h.elim
 |_::_,[],h=>h.elim
theorem Lf.ac7 {r:Ren}(h:L.Holds Base.rho Base.sig){x:A}{v:Value}(hv:VA r x v):VA r (L.nA x) v:=by
 cases x with
 |s x=>exact Lf.QV h hv
 |g l=>obtain⟨vs,e,a⟩:=hv;exact⟨vs,e,Lf.Gx h a⟩
theorem Lf.xU {r:Ren}(h:L.Holds Base.rho Base.sig):∀{l:List A} {vs:List Value},au (VA r) l vs->au (VA r) (l.map L.nA) vs
 |[],[],_=>trivial
 |x::l,v::vs,hv=>⟨Lf.ac7 h hv.1,Lf.xU h hv.2⟩
 |[],_::_,h=>h.elim
 |_::_,[],h=>h.elim
end
inductive Sp where
 |leaf
 |void
 |cut (i:Nat) (c:Int) (a b:Sp)
 |eqs (i j:Nat) (a b:Sp)
 |tri (i j:Nat) (a b c:Sp)
 |str (i:Nat) (l:List Nat) (a b:Sp)
 |conj (l:List (Nat×Int)) (a b:Sp)
def Lf.hi (L:Lf)(i:Nat)(c:Int):Lf:={ L with iv:=Option.rec L.iv (λp=>upd L.iv i (p.1,bif decide (p.2<=c)then p.2 else c)) (nth L.iv i) }
def Lf.lo (L:Lf)(i:Nat)(c:Int):Lf:={ L with iv:=Option.rec L.iv (λp=>upd L.iv i (bif decide (c<=p.1)then p.1 else c,p.2)) (nth L.iv i) }
def Lf.within (L:Lf)(i j:Nat):Lf:=Option.rec L (λp=>(L.lo i p.1).hi i p.2) (nth L.iv j)
def ren (i j k:Nat):Nat:=bif aia k j then i else k
def Lf.unify (L:Lf)(i j:Nat):Lf:=
 { L.within i j with ne:=L.ne.map λp=>(ren i j p.1,ren i j p.2),lt:=L.lt.map λp=>(ren i j p.1,ren i j p.2),cf:=L.cf.map λm=>m.map λp=>(ren i j p.1,p.2),to:=L.to.map (ren i j) }
def Lf.differ (L:Lf)(i j:Nat):Lf:={ L with ne:=(i,j)::L.ne }
def Lf.less (L:Lf)(i j:Nat):Lf:={ L with lt:=(i,j)::L.lt }
def Lf.all (L:Lf):List (Nat×Int)->Lf:=List.rec L λp _ ih=>(ih.hi p.1 p.2).lo p.1 p.2
def Lf.void (L:Lf):Bool:=L.iv.any (λp=>decide (p.2<p.1))||L.ne.any (λp=>aia p.1 p.2)||L.lt.any (λp=>aia p.1 p.2)
def Sp.leaves (sp:Sp):Lf->List Lf:=
 Sp.rec (λL=>[L]) (λL=>bif L.void then[]else[L]) (λi c _ _ a b L=>a (L.hi i (c-1))++b (L.lo i c)) (λi j _ _ a b L=>a (L.unify i j)++b (L.differ i j))
  (λi j _ _ _ a b c L=>a (L.less i j)++(b (L.unify i j)++c (L.less j i))) (λi l _ _ a b L=>a { L with st:=(i,l)::L.st }++b { L with sn:=(i,l)::L.sn }) (λl _ _ a b L=>a (L.all l)++b { L with cf:=l::L.cf }) sp
section
variable {L:Lf} {rho:Nat->Int} {sig:Nat->List UInt8}
theorem WE {α:Type}(l:List α)(i j:Nat)(y x:α)(h:nth (upd l i y) j=some x):(j=i/\x=y)\/(j≠i/\nth l j=some x):=by
 rw[Jl,aI,List.getElem?_set]at h
 by_cases e:i=j
 ·subst e
  simp only[agL]at h
  split at h
  ·cases h;exact .inl ⟨rfl,rfl⟩
  ·cases h
 ·simp only[e,agA]at h
  exact .inr ⟨λh=>e h.symm,by rw[aI];exact h⟩
theorem Lf.Holds.hi (h:L.Holds rho sig){i:Nat}{c:Int}(hc:rho i<=c):(L.hi i c).Holds rho sig:=by
 refine⟨λj p e=>?_,h.ne,h.lt,h.to,h.st,h.sn,h.cf⟩
 unfold Lf.hi at e
 cases hi:nth L.iv i with
 |none=>rw[hi]at e;exact h.iv j p e
 |some q=>
  rw[hi]at e
  rcases WE _ _ _ _ _ e with⟨rfl,rfl⟩|⟨_,e⟩
  ·have:=h.iv _ _ hi
   refine⟨this.1,?_⟩
   cases decide (q.2<=c)
   ·exact hc
   ·exact this.2
  ·exact h.iv j p e
theorem Lf.Holds.lo (h:L.Holds rho sig){i:Nat}{c:Int}(hc:c<=rho i):(L.lo i c).Holds rho sig:=by
 refine⟨λj p e=>?_,h.ne,h.lt,h.to,h.st,h.sn,h.cf⟩
 unfold Lf.lo at e
 cases hi:nth L.iv i with
 |none=>rw[hi]at e;exact h.iv j p e
 |some q=>
  rw[hi]at e
  rcases WE _ _ _ _ _ e with⟨rfl,rfl⟩|⟨_,e⟩
  ·have:=h.iv _ _ hi
   refine⟨?_,this.2⟩
   cases decide (c<=q.1)
   ·exact hc
   ·exact this.1
  ·exact h.iv j p e
theorem Lf.Holds.within (h:L.Holds rho sig){i j:Nat}(e:rho i=rho j):(L.within i j).Holds rho sig:=by
 unfold Lf.within
 cases hj:nth L.iv j with
 |none=>exact h
 |some p=>
  have:=h.iv _ _ hj
  exact(h.lo (by omega)).hi (by omega)
theorem EF {i j:Nat}(e:rho i=rho j)(k:Nat):rho (ren i j k)=rho k:=by
 unfold ren
 cases hk:aia k j
 ·rfl
 ·rw[aeX hk];exact e
theorem Lf.Holds.unify (h:L.Holds rho sig){i j:Nat}(e:rho i=rho j):(L.unify i j).Holds rho sig:=by
 refine⟨(h.within e).iv,λa b m=>?_,λa b m=>?_,λa b m=>?_,(h.within e).st,(h.within e).sn,λm hm=>?_⟩
 ·have m:(a,b)∈L.ne.map λp=>(ren i j p.1,ren i j p.2):=m
  obtain⟨p,hp,e'⟩:=afo.1 m
  cases e'
  rw[EF e,EF e]
  exact h.ne _ _ hp
 ·have m:(a,b)∈L.lt.map λp=>(ren i j p.1,ren i j p.2):=m
  obtain⟨p,hp,e'⟩:=afo.1 m
  cases e'
  rw[EF e,EF e]
  exact h.lt _ _ hp
 ·have m:nth (L.to.map (ren i j)) a=some b:=m
  rw[aI,aeT]at m
  cases hp:L.to[a]? with
  |none=>rw[hp]at m;cases m
  |some p=>
   rw[hp]at m
   cases m
   rw[EF e]
   exact h.to a p (by rw[aI];exact hp)
 ·have hm:m∈L.cf.map λm=>m.map λp=>(ren i j p.1,p.2):=hm
  obtain⟨m',hm',rfl⟩:=afo.1 hm
  rw[agG]
  rw[<-h.cf m' hm']
  congr 1
  funext p
  simp only[Function.comp,EF e]
theorem Lf.a5x (h:L.Holds rho sig):L.void=false:=by
 unfold Lf.void
 simp only[agC,ahp]
 refine⟨⟨λp hp=>?_,λp hp=>?_⟩,λp hp=>?_⟩
 ·obtain⟨i,hi⟩:=afD hp
  have:=h.iv i p (by rw[aI];exact hi)
  simp
  omega
 ·intro e
  have:=h.ne p.1 p.2 hp
  rw[aeX e]at this
  exact this rfl
 ·intro e
  have:=h.lt p.1 p.2 hp
  rw[aeX e]at this
  omega
theorem Lf.Holds.all (h:L.Holds rho sig):∀{l:List (Nat×Int)},(l.all λp=>decide (rho p.1=p.2))=true->(L.all l).Holds rho sig
 |[],_=>h
 |p::l,e=>by
  simp only[afz,aeI,af6]at e
  exact((h.all e.2).hi (by omega)).lo (by omega)
theorem Sp.cover (sp:Sp):∀{L:Lf},L.Holds rho sig->∃L'∈sp.leaves L,L'.Holds rho sig:=by
 induction sp with
 |leaf=>exact λ{L} h=>⟨L,aeR.2 rfl,h⟩
 |void=>
  intro L h
  refine⟨L,?_,h⟩
  show L∈(bif L.void then[]else[L])
  rw[Lf.a5x h]
  simp
 |cut i c a b ha hb=>
  intro L h
  by_cases e:rho i<c
  ·obtain⟨L',m,h'⟩:=ha (h.hi (i:=i) (c:=c-1) (by omega))
   exact⟨L',afl.2 (.inl m),h'⟩
  ·obtain⟨L',m,h'⟩:=hb (h.lo (i:=i) (c:=c) (by omega))
   exact⟨L',afl.2 (.inr m),h'⟩
 |eqs i j a b ha hb=>
  intro L h
  by_cases e:rho i=rho j
  ·obtain⟨L',m,h'⟩:=ha (h.unify e)
   exact⟨L',afl.2 (.inl m),h'⟩
  ·obtain⟨L',m,h'⟩:=hb (L:=L.differ i j) ⟨h.iv,λa b m=>by
    rcases aeQ.1 m with e'|m
    ·cases e';exact e
    ·exact h.ne a b m,h.lt,h.to,h.st,h.sn,h.cf⟩
   exact⟨L',afl.2 (.inr m),h'⟩
 |tri i j a b c ha hb hc=>
  intro L h
  have hl:∀{i j:Nat},rho i<rho j->(L.less i j).Holds rho sig:=λ{i j} e=>⟨h.iv,h.ne,λa b m=>by
    rcases aeQ.1 m with e'|m
    ·cases e';exact e
    ·exact h.lt a b m,h.to,h.st,h.sn,h.cf⟩
  rcases Int.lt_trichotomy (rho i) (rho j)with e|e|e
  ·obtain⟨L',m,h'⟩:=ha (hl e)
   exact⟨L',afl.2 (.inl m),h'⟩
  ·obtain⟨L',m,h'⟩:=hb (h.unify e)
   exact⟨L',afl.2 (.inr (afl.2 (.inl m))),h'⟩
  ·obtain⟨L',m,h'⟩:=hc (hl e)
   exact⟨L',afl.2 (.inr (afl.2 (.inr m))),h'⟩
 |str i l a b ha hb=>
  intro L h
  by_cases e:sig i=bW sig l
  ·obtain⟨L',m,h'⟩:=ha (L:={ L with st:=(i,l)::L.st }) ⟨h.iv,h.ne,h.lt,h.to,λa b m=>by
    rcases aeQ.1 m with e'|m
    ·cases e';exact e
    ·exact h.st a b m,h.sn,h.cf⟩
   exact⟨L',afl.2 (.inl m),h'⟩
  ·obtain⟨L',m,h'⟩:=hb (L:={ L with sn:=(i,l)::L.sn }) ⟨h.iv,h.ne,h.lt,h.to,h.st,λa b m=>by
    rcases aeQ.1 m with e'|m
    ·cases e';exact e
    ·exact h.sn a b m,h.cf⟩
   exact⟨L',afl.2 (.inr m),h'⟩
 |conj l a b ha hb=>
  intro L h
  cases e:l.all λp=>decide (rho p.1=p.2)with
  |true=>
   obtain⟨L',m,h'⟩:=ha (h.all e)
   exact⟨L',afl.2 (.inl m),h'⟩
  |false=>
   obtain⟨L',m,h'⟩:=hb (L:={ L with cf:=l::L.cf }) ⟨h.iv,h.ne,h.lt,h.to,h.st,h.sn,λm hm=>by
    rcases aeQ.1 hm with e'|hm
    ·rw[e'];exact e
    ·exact h.cf m hm⟩
   exact⟨L',afl.2 (.inr m),h'⟩
end
abbrev Gp:=Bool×List Kd
def cellT (i:Nat):Kd->S
 | .b=>.xe [(i,1)]
 | .i k=>.xi k i
 | .s=>.xs [256+i]
def dD:Nat->List Kd->List S
 |_,[]=>[]
 |i,k::ks=>cellT i k::dD (i+1) ks
def ac5 (i:Nat)(g:Gp):A:=match g with
 |(false,[k])=>.s (cellT i k)
 |g=>.g (dD i g.2)
def Xh:Nat->List Gp->List A
 |_,[]=>[]
 |i,g::gs=>ac5 i g::Xh (i+g.2.length) gs
def Kd.iv:Kd->Int×Int
 | .b=>(0,1)
 | .i k=>(k.min,k.max)
 | .s=>(0,IntKind.i64.max)
def fC (gs:List Gp):List Kd:=gs.flatMap λg=>g.2
def fF:Nat->List Kd->List Nat
 |_,[]=>[]
 |i,.s::ks=>i::fF (i+1) ks
 |i,_::ks=>fF (i+1) ks
def Lf.start (gs:List Gp):Lf:=⟨(fC gs).map Kd.iv,[],[],aie (fC gs).length,[],[],[]⟩
def bD (v:Value):Int:=match v with | .int _ n=>n| .bool b=>if b then 1 else 0| .string s=>s.size|_=>0
def PZ:Nat->Nat->List UInt8->List UInt8
 |0,_,acc=>acc
 |f+1,u,acc=>bif aib u 10 then UInt8.ofNat (48+u)::acc else PZ f (u/10) (UInt8.ofNat (48+u%10)::acc)
def gy (n:Int):List UInt8:=match n with
 | .ofNat u=>PZ 20 u []
 | .negSucc u=>45::PZ 20 (u+1) []
theorem Hr:∀(f u:Nat) (acc:List UInt8),(PZ f u acc).length<=f+acc.length
 |0,_,acc=>by simp[PZ]
 |f+1,u,acc=>by
  rw[PZ]
  cases aib u 10
  ·have:=Hr f (u/10) (UInt8.ofNat (48+u%10)::acc)
   simp only[aeS,afi]at this |-
   omega
  ·simp only[aeW,afi]
   omega
theorem iU (n:Int):(gy n).length<=21:=by
 unfold gy
 split
 ·have:=Hr 20 (by assumption) []
  simp only[afC]at this
  omega
 ·rename_i u
  have:=Hr 20 (u+1) []
  simp only[afC,afi]at this |-
  omega
def ng (v:Value):List UInt8:=match v with | .string s=>s.data.toList| .int _ n=>gy n|_=>[]
noncomputable def dH (cs:List Value):Nat->Int:=Dy (cs.map bD)
noncomputable def gu (cs:List Value):Nat->List UInt8:=Iw (cs.map ng)
def adb (g:Gp)(v:Value)(us:List Value):Prop:=au Kd.ok g.2 us/\((g.1=true/\v=.agg us.toArray)\/(g.1=false/\us=[v]))
def Gps:List Gp->List Value->List Value->Prop
 |[],[],cs=>cs=[]
 |g::gs,v::vs,cs=>∃us cs',cs=us++cs'/\adb g v us/\Gps gs vs cs'
 |_,_,_=>False
theorem a5f (pre post:List Value)(v:Value):dH (pre++v::post) pre.length=bD v:=by simp[dH,Dy,aI]
theorem a4C (pre post:List Value)(v:Value):gu (pre++v::post) pre.length=ng v:=by simp[gu,Iw,aI]
theorem a1b [Base]{r:Ren}{k:Kd}{v:Value}(h:k.ok v){i:Nat}(h1:Base.rho i=bD v)(h2:Base.sig i=ng v):VS r (cellT i k) v:=by
 cases k with
 |b=>obtain⟨b,rfl⟩:=h;cases b<;>simp[cellT,VS,h1,bD]
 |i k=>obtain⟨n,rfl,_⟩:=h;show _=_;rw[h1];rfl
 |s=>
  obtain⟨s,rfl,_⟩:=h
  show _=_
  rw[iM,h2]
  rfl
theorem lI [Base]{r:Ren}{cs:List Value}(h1:Base.rho=dH cs)(h2:Base.sig=gu cs):∀{ks:List Kd} {us pre post:List Value},cs=pre++(us++post)->au Kd.ok ks us->au (VS r) (dD pre.length ks) us
 |[],[],_,_,_,_=>trivial
 |k::ks,u::us,pre,post,e,h=>by
  refine⟨a1b h.1 ?_ ?_,?_⟩
  ·rw[h1,e];exact a5f _ _ _
  ·rw[h2,e];exact a4C _ _ _
  ·have:=lI (r:=r) h1 h2 (ks:=ks) (us:=us) (pre:=pre++[u]) (post:=post) (by simp[e]) h.2
   simpa using this
 |[],_::_,_,_,_,h=>h.elim
 |_::_,[],_,_,_,h=>h.elim
theorem a6n [Base]{r:Ren}{cs:List Value}(h1:Base.rho=dH cs)(h2:Base.sig=gu cs){g:Gp}{v:Value}{us pre post:List Value}(e:cs=pre++(us++post))(h:adb g v us):VA r (ac5 pre.length g) v:=by
 obtain⟨hk,h⟩:=h
 have hc:=lI (r:=r) h1 h2 e hk
 obtain⟨b,ks⟩:=g
 rcases h with⟨hb,rfl⟩|⟨hb,rfl⟩
 ·simp only at hb
  subst hb
  exact⟨us,rfl,hc⟩
 ·simp only at hb
  subst hb
  match ks,hk,hc with
  |[k],_,hc=>exact hc.1
theorem xC [Base]{r:Ren}{cs:List Value}(h1:Base.rho=dH cs)(h2:Base.sig=gu cs)(post:List Value):∀{gs:List Gp} {vs pre cs':List Value},cs=pre++(cs'++post)->Gps gs vs cs'->au (VA r) (Xh pre.length gs) vs
 |[],[],_,_,_,_=>trivial
 |g::gs,v::vs,pre,cs',e,h=>by
  obtain⟨us,cs'',rfl,hg,h⟩:=h
  refine⟨a6n (post:=cs''++post) h1 h2 (by rw[e];simp) hg,?_⟩
  have:=xC (r:=r) h1 h2 post (gs:=gs) (vs:=vs) (pre:=pre++us) (cs':=cs'') (by simp[e]) h
  rw[aeL,<-hg.1.len]at this
  exact this
 |[],_::_,_,_,_,h=>h.elim
 |_::_,[],_,_,_,h=>h.elim
theorem Gps.kinds:∀{gs:List Gp} {vs cs:List Value},Gps gs vs cs->au Kd.ok (fC gs) cs
 |[],[],cs,h=>by cases h;trivial
 |g::gs,v::vs,cs,h=>by
  obtain⟨us,cs',rfl,hg,h⟩:=h
  exact hg.1.app h.kinds
 |[],_::_,_,h=>h.elim
 |_::_,[],_,h=>h.elim
theorem Kd.GY {k:Kd}{v:Value}(h:k.ok v):k.iv.1<=bD v/\bD v<=k.iv.2:=by
 cases k with
 |b=>obtain⟨b,rfl⟩:=h;cases b<;>decide
 |i k=>obtain⟨n,rfl,h⟩:=h;exact h
 |s=>obtain⟨s,rfl,h⟩:=h;exact⟨by simp[Kd.iv,bD],h⟩
theorem Lf.D7 {gs:List Gp}{vs cs:List Value}(h:Gps gs vs cs):(Lf.start gs).Holds (dH cs) (gu cs) where
 iv i p e:=by
  have e:nth ((fC gs).map Kd.iv) i=some p:=e
  rw[aI,aeT]at e
  cases hk:(fC gs)[i]? with
  |none=>rw[hk]at e;cases e
  |some k=>
   rw[hk]at e
   cases e
   obtain⟨v,hv,hkv⟩:=au.nth h.kinds (n:=i) (x:=k) (by rw[aI];exact hk)
   have:=Kd.GY hkv
   simpa[dH,Dy,aI,hv]using this
 ne _ _ e:=by cases e
 lt _ _ e:=by cases e
 to i j e:=by
  have e:nth (aie (fC gs).length) i=some j:=e
  rw[aI]at e
  obtain⟨_,e⟩:=aeU.1 e
  simp at e
  rw[e]
 st _ _ e:=by cases e
 sn _ _ e:=by cases e
 cf _ e:=by cases e
theorem uz:∀{ks:List Kd} {o i:Nat},i∈fF o ks->∃j,i=o+j/\ks[j]? =some .s
 |[],_,_,h=>by cases h
 | .s::ks,o,i,h=>by
  rcases aeQ.1 h with rfl|h
  ·exact⟨0,rfl,rfl⟩
  ·obtain⟨j,rfl,h'⟩:=uz h
   exact⟨j+1,by omega,h'⟩
 | .b::ks,o,i,h=>by
  obtain⟨j,rfl,h'⟩:=uz (ks:=ks) (o:=o+1) h
  exact⟨j+1,by omega,h'⟩
 | .i _::ks,o,i,h=>by
  obtain⟨j,rfl,h'⟩:=uz (ks:=ks) (o:=o+1) h
  exact⟨j+1,by omega,h'⟩
def Dec (ks:List Kd)(rho:Nat->Int)(sig:Nat->List UInt8):Prop:=∀i,nth ks i=some (.i .i64)->sig i=gy (rho i)/\IntKind.i64.min<=rho i/\rho i<=IntKind.i64.max
theorem a4I {gs:List Gp}{vs cs:List Value}(h:Gps gs vs cs):Dec (fC gs) (dH cs) (gu cs):=λi hi=>by
 obtain⟨v,hv,hk⟩:=au.nth h.kinds hi
 obtain⟨n,rfl,h1,h2⟩:=hk
 have e1:dH cs i=n:=by simp[dH,Dy,aI,hv,bD]
 have e2:gu cs i=gy n:=by simp[gu,Iw,aI,hv,ng]
 rw[e1,e2]
 exact⟨rfl,h1,h2⟩
theorem Lh:∀{ks:List Kd} {o i:Nat},ks[i]? =some .s->o+i∈fF o ks
 |[],_,_,h=>by simp at h
 |k::ks,o,0,h=>by
  simp only[agh,afI]at h
  subst h
  exact afh ..
 |k::ks,o,i+1,h=>by
  have:=Lh (ks:=ks) (o:=o+1) (i:=i) (by simpa using h)
  rw[show o+1+i=o+(i+1)by omega]at this
  cases k with
  |s=>exact afd _ this
  |b=>exact this
  |i _=>exact this
theorem RF {k:Kd}{v:Value}(h:k.ok v)(hk:k≠.s):(ng v).length<=21:=by
 cases k with
 |b=>obtain⟨b,rfl⟩:=h;simp[ng]
 |i k=>obtain⟨n,rfl,_⟩:=h;exact iU n
 |s=>exact absurd rfl hk
theorem G5 {gs:List Gp}{vs cs:List Value}(h:Gps gs vs cs):Lens (fF 0 (fC gs)) (dH cs) (gu cs) where
 all i hi:=by
  simp only[gu,Iw,aI,aeT]
  cases hv:cs[i]? with
  |none=>simp
  |some v=>
   have hlt:=(aeU.1 hv).1
   have hl:=h.kinds.len
   have hk:(fC gs)[i]? =some ((fC gs)[i]'(by omega)):=aeK _
   obtain⟨v',hv',hok⟩:=au.nth h.kinds (n:=i) (by rw[aI];exact hk)
   rw[hv]at hv'
   cases hv'
   refine RF hok λe=>hi ?_
   rw[e]at hk
   simpa using Lh (o:=0) hk
 ss i hi:=by
  obtain⟨j,rfl,hj⟩:=uz hi
  rw[afK]
  obtain⟨v,hv,hk⟩:=au.nth h.kinds (n:=j) (x:=.s) (by rw[aI];exact hj)
  obtain⟨s,rfl,_⟩:=hk
  simp[gu,dH,Iw,Dy,aI,hv,bD,ng]
def Lf.Iu (gs:List Gp)(m:Nat):Lf:=⟨(fC gs).map Kd.iv++List.replicate m (0,21),[],[],aie ((fC gs).length+m),[],[],[]⟩
def kH (cs:List Value)(xs:List (List UInt8)):List Value:=cs++xs.map λx=>.string ⟨x.toArray⟩
theorem Tn {α:Type}{a b:List α}{i:Nat}(h:i<a.length):nth (a++b) i=nth a i:=by rw[aI,aI,af5 h]
theorem Lf.KH {gs:List Gp}{vs cs:List Value}(h:Gps gs vs cs){xs:List (List UInt8)}(hl:∀x,x∈xs->x.length<=21):(Lf.Iu gs xs.length).Holds (dH (kH cs xs)) (gu (kH cs xs)) where
 iv i p e:=by
  have e:nth ((fC gs).map Kd.iv++List.replicate xs.length (0,21)) i=some p:=e
  have hlen:((fC gs).map Kd.iv).length=cs.length:=by rw[af4];exact h.kinds.len
  by_cases hi:i<cs.length
  ·rw[Tn (by omega)]at e
   have h0:=(Lf.D7 h).iv i p e
   have hr:dH (kH cs xs) i=dH cs i:=by
    simp only[dH,Dy,kH,afX,aI]
    rw[af5 (by simpa using hi)]
   rw[hr]
   exact h0
  ·rw[aI,af7 (by omega)]at e
   obtain⟨hk,e⟩:=aeU.1 e
   simp only[List.getElem_replicate]at e
   subst e
   rw[List.length_replicate]at hk
   have hx:xs[i-cs.length]? =some (xs[i-cs.length]'(by omega)):=aeK _
   have hr:dH (kH cs xs) i=((xs[i-cs.length]'(by omega)).length:Int):=by
    simp only[dH,Dy,kH,afX,aI,agp]
    rw[af7 (by simp;omega),aeT,af4,hx]
    simp[bD,ByteArray.size]
   rw[hr]
   have:=hl _ (aeY hx)
   simp only
   omega
 ne _ _ e:=by cases e
 lt _ _ e:=by cases e
 to i j e:=by
  have e:nth (aie ((fC gs).length+xs.length)) i=some j:=e
  rw[aI]at e
  obtain⟨_,e⟩:=aeU.1 e
  simp at e
  rw[e]
 st _ _ e:=by cases e
 sn _ _ e:=by cases e
 cf _ e:=by cases e
theorem nY {cs:List Value}{xs:List (List UInt8)}{i:Nat}(hi:i<cs.length):dH (kH cs xs) i=dH cs i:=by
 simp only[dH,Dy,kH,afX,aI]
 rw[af5 (by simpa using hi)]
theorem Dx {cs:List Value}{xs:List (List UInt8)}{i:Nat}(hi:i<cs.length):gu (kH cs xs) i=gu cs i:=by
 simp only[gu,Iw,kH,afX,aI]
 rw[af5 (by simpa using hi)]
theorem a8O {cs:List Value}{xs:List (List UInt8)}{j:Nat}{x:List UInt8}(h:xs[j]? =some x):gu (kH cs xs) (cs.length+j)=x:=by
 simp only[gu,Iw,kH,afX,aI,agp]
 rw[af7 (by simp),aeT,af4,show cs.length+j-cs.length=j by omega,h]
 simp[ng]
theorem Ik {gs:List Gp}{vs cs:List Value}(h:Gps gs vs cs){xs:List (List UInt8)}(hl:∀x,x∈xs->x.length<=21):Lens (fF 0 (fC gs)) (dH (kH cs xs)) (gu (kH cs xs)) where
 all i hi:=by
  by_cases hlt:i<cs.length
  ·rw[Dx hlt]
   exact(G5 h).all i hi
  ·obtain⟨j,rfl⟩:∃j,i=cs.length+j:=⟨i-cs.length,by omega⟩
   cases hx:xs[j]? with
   |some x=>
    rw[a8O hx]
    exact hl x (aeY hx)
   |none=>
    simp only[gu,Iw,kH,afX,aI,agp]
    rw[af7 (by simp),aeT,af4,show cs.length+j-cs.length=j by omega,hx]
    simp
 ss i hi:=by
  have hlt:i<cs.length:=by
   obtain⟨j,rfl,hj⟩:=uz hi
   have:=(aeU.1 hj).1
   have:=h.kinds.len
   omega
  rw[nY hlt,Dx hlt]
  exact(G5 h).ss i hi
theorem KF {gs:List Gp}{vs cs:List Value}(h:Gps gs vs cs)(xs:List (List UInt8)):Dec (fC gs) (dH (kH cs xs)) (gu (kH cs xs)):=λi hi=>by
 have hlt:i<cs.length:=by
  rw[aI]at hi
  have:=(aeU.1 hi).1
  have:=h.kinds.len
  omega
 rw[nY hlt,Dx hlt]
 exact a4I h i hi
end
noncomputable section
def VY:Option Nat->Option Nat->Bool
 |none,none=>true
 |some a,some b=>aia a b
 |_,_=>false
def S.eqv (x y:S):Bool:=
 match x,y with
 | .ptr l o,.ptr l' o'=>aia l l'&&aia o o'
 | .sl l o n z c,.sl l' o' n' z' c'=>aia l l'&&aia o o'&&aia n n'&&aia z z'&&VY c c'
 | .sle,.sle=>true
 | .xe l,.xe m=>xw l m
 |x,y=>x.same y
def A.eqv (x y:A):Bool:=match x,y with | .s x,.s y=>x.eqv y| .g l,.g m=>iT S.eqv l m|_,_=>false
def V.same (x y:V):Bool:=match x,y with | .a x,.a y=>x.same y| .t l,.t m=>iT A.same l m|_,_=>false
def wZ (v:V)(r:R):Bool:=Option.rec false (λp=>V.same p.1 v) r
variable [Base]
theorem S.y9 {x y:S}(h:x.eqv y=true):x=y:=by
 unfold S.eqv at h
 split at h
 ·simp only[aeI]at h
  rw[aeX h.1,aeX h.2]
 ·simp only[aeI]at h
  obtain⟨⟨⟨⟨h1,h2⟩,h3⟩,h4⟩,h5⟩:=h
  rw[aeX h1,aeX h2,aeX h3,aeX h4]
  congr 1
  unfold VY at h5
  split at h5
  ·rfl
  ·rw[aeX h5]
  ·cases h5
 ·rfl
 ·rw[su h]
 ·exact(S.kG h).1
theorem Iz {α:Type}{f:α->α->Bool}(hf:∀x y,f x y=true->x=y){l m:List α}(h:iT f l m=true):l=m:=
 (JF (g:=λ_=>true) (λx y e=>⟨hf x y e,rfl⟩) h).1
theorem V.kG {x y:V}(h:V.same x y=true):x=y:=by
 unfold V.same at h
 split at h
 ·rw[(A.kG h).1]
 ·rw[Iz (λ_ _ h=>(A.kG h).1) h]
 ·cases h
theorem a2g:∀{m:Hp} {l:Nat} {b:Blk},Hp.get m l=some b->(l,b)∈m
 |[],_,_,h=>by cases h
 |p::m,l,b,h=>by
  rw[Hp.gQ]at h
  cases e:(p.1==l)<;>rw[e]at h<;>simp only[aeW,aeS]at h
  ·exact afd _ (a2g h)
  ·cases h
   have e':p.1=l:=by simpa using e
   rw[<-e']
   exact afh ..
end
noncomputable section
def incr:Nat->List Bool->List Int
 |_,[]=>[]
 |i,b::t=>(bif b then[(i:Int)]else[])++incr (i+1) t
theorem Qi:∀(bs:List Bool) (i:Nat),(incr i bs).length<=bs.length
 |[],_=>by simp[incr]
 |b::t,i=>by
  have:=Qi t (i+1)
  cases b<;>simp[incr]<;>omega
theorem J8:∀(bs:List Bool) (i:Nat) (b:Bool),incr i (bs++[b])=incr i bs++bif b then[((i+bs.length:Nat):Int)]else[]
 |[],i,b=>by simp[incr]
 |c::t,i,b=>by
  have:=J8 t (i+1) b
  have e:i+1+t.length=i+(t.length+1):=by omega
  simp only[ag9,incr,this,afi,e,af9]
theorem IX:∀(bs:List Bool) (i:Nat) (x:Int),x∈incr i bs↔∃j,bs[j]? =some true/\x=((i+j:Nat):Int)
 |[],i,x=>by simp[incr]
 |b::t,i,x=>by
  rw[incr,afl,IX t (i+1) x]
  constructor
  ·rintro (h|⟨j,h,rfl⟩)
   ·cases b<;>simp at h
    exact⟨0,rfl,by simpa using h⟩
   ·exact⟨j+1,by simpa using h,by omega⟩
  ·rintro⟨j,h,rfl⟩
   cases j with
   |zero=>simp at h;subst h;exact .inl (by simp)
   |succ j=>exact .inr ⟨j,by simpa using h,by omega⟩
theorem Fj:∀(bs:List Bool) (i:Nat),List.Pairwise (· <·) (incr i bs)
 |[],i=>by simp[incr]
 |b::t,i=>by
  have h:=Fj t (i+1)
  cases b
  ·simpa[incr]using h
  ·simp only[incr,aeW,ag9,agx,agO]
   refine⟨λx hx=>?_,h⟩
   obtain⟨j,_,rfl⟩:=(IX t (i+1) x).1 hx
   omega
theorem LK:∀{l m:List Int},List.Pairwise (· <·) l->List.Pairwise (· <·) m->(∀x,x∈l↔x∈m)->l=m
 |[],[],_,_,_=>rfl
 |[],y::m,_,_,h=>by have:=(h y).2 (by simp);simp at this
 |x::l,[],_,_,h=>by have:=(h x).1 (by simp);simp at this
 |x::l,y::m,h1,h2,h=>by
  rw[agO]at h1 h2
  have hx:=(h x).1 (by simp)
  have hy:=(h y).2 (by simp)
  have e:x=y:=by
   rcases aeQ.1 hx with e|hx
   ·exact e
   ·rcases aeQ.1 hy with e|hy
    ·exact e.symm
    ·have:=h1.1 _ hy
     have:=h2.1 _ hx
     omega
  subst e
  congr 1
  refine LK h1.2 h2.2 λz=>⟨λhz=>?_,λhz=>?_⟩
  ·have:=h1.1 _ hz
   rcases aeQ.1 ((h z).1 (afd _ hz))with e|h
   ·omega
   ·exact h
  ·have:=h2.1 _ hz
   rcases aeQ.1 ((h z).2 (afd _ hz))with e|h
   ·omega
   ·exact h
section
variable [Know]
def QT (a:N):List N->Option (List N)
 |[]=>some [a]
 |b::r=>ob (ltX a b) λl=>bif l then some (a::b::r)else ob (ltX b a) λl=>bif l then ob (QT a r) λr=>some (b::r)else some (b::r)
def Ht:List N->Option (List N)
 |[]=>some []
 |a::r=>ob (Ht r) (QT a)
def S.isT (x:S):Bool:=match x with | .bool b=>b|_=>false
def Ec:Nat->List S->List N
 |_,[]=>[]
 |j,x::r=>(bif x.isT then[.c (j:Int)]else[])++Ec (j+1) r
def oI:List S->List Nat
 |[]=>[]
 |x::r=>match x with | .xe l=>l.map (·.1)|_=>oI r
def ZL (X:List Nat):Nat->List S->Bool
 |_,[]=>true
 |j,x::r=>(match x with | .bool b=>b||X.isEmpty| .xe l=>xw l (X.map λi=>(i,(j:Int)))|_=>false)&&ZL X (j+1) r
def a9h:N->S
 | .c n=>.int .i64 n
 | .x i=>.xi .i64 i
def inN (n:Nat)(i:Nat):Bool:=Option.rec false (λp=>decide (0<=p.1)&&decide (p.2<(n:Int))) (nth Know.iv i)
def a3D (n:Nat)(cells:List S):Option (List S):=
 bif (oI cells).isEmpty then none else
  bif aia cells.length n&&ZL (oI cells) 0 cells&&(oI cells).all (inN n)then ob (Ht ((oI cells).map .x++Ec 0 cells)) λl=>some (l.map a9h)else none
end
variable [Base]
theorem VZ {a:N}:∀{l l':List N},QT a l=some l'->List.Pairwise (· <·) (l.map NV)->List.Pairwise (· <·) (l'.map NV)/\∀x,x∈l'.map NV↔x=NV a\/x∈l.map NV
 |[],l',h,_=>by cases h;simp
 |b::r,l',h,hs=>by
  have h:ob (ltX a b) (λl=>bif l then some (a::b::r)else ob (ltX b a) λl=>bif l then ob (QT a r) λr=>some (b::r)else some (b::r))=some l':=h
  obtain⟨c,hc,h⟩:=aj h
  have hc:=tZ hc
  cases c
  ·simp only[aeS]at h
   obtain⟨d,hd,h⟩:=aj h
   have hd:=tZ hd
   have hc:¬NV a<NV b:=by simpa using hc.symm
   simp only[afr,agO]at hs
   cases d
   ·simp only[aeS,afI]at h
    subst h
    have hd:¬NV b<NV a:=by simpa using hd.symm
    refine⟨by simpa using hs,λx=>?_⟩
    simp only[afr,aeQ]
    constructor
    ·exact λh=>.inr h
    ·rintro (rfl|h)
     ·exact .inl (by omega)
     ·exact h
   ·simp only[aeW]at h
    obtain⟨r',hr,h⟩:=aj h
    cases h
    have hd:NV b<NV a:=by simpa using hd.symm
    obtain⟨h1,h2⟩:=VZ hr hs.2
    refine⟨?_,λx=>?_⟩
    ·simp only[afr,agO]
     refine⟨λx hx=>?_,h1⟩
     rcases(h2 x).1 hx with rfl|hx
     ·exact hd
     ·exact hs.1 x hx
    ·simp only[afr,aeQ,h2 x]
     constructor
     ·rintro (h|h|h)
      ·exact .inr (.inl h)
      ·exact .inl h
      ·exact .inr (.inr h)
     ·rintro (h|h|h)
      ·exact .inr (.inl h)
      ·exact .inl h
      ·exact .inr (.inr h)
  ·simp only[aeW,afI]at h
   subst h
   have hc:NV a<NV b:=by simpa using hc.symm
   refine⟨?_,λx=>by simp⟩
   simp only[afr,agO]at hs |-
   refine⟨λx hx=>?_,hs⟩
   rcases aeQ.1 hx with rfl|hx
   ·exact hc
   ·have:=hs.1 x hx;omega
theorem MZ:∀{l l':List N},Ht l=some l'->List.Pairwise (· <·) (l'.map NV)/\∀x,x∈l'.map NV↔x∈l.map NV
 |[],l',h=>by cases h;simp
 |a::r,l',h=>by
  obtain⟨m,hm,h⟩:=aj (show ob (Ht r) (QT a)=some l' from h)
  obtain⟨h1,h2⟩:=MZ hm
  obtain⟨h3,h4⟩:=VZ h h1
  exact⟨h3,λx=>by rw[h4 x,h2 x,afr,aeQ]⟩
theorem S.a7v {x:S}:x.isT=true↔x=.bool true:=by
 cases x<;>simp[S.isT]
theorem JA:∀(cells:List S) (j:Nat) (x:Int),x∈(Ec j cells).map NV↔∃k,cells[k]? =some (.bool true)/\x=((j+k:Nat):Int)
 |[],j,x=>by simp[Ec]
 |c::r,j,x=>by
  rw[Ec,afX,afl,JA r (j+1) x]
  constructor
  ·rintro (h|⟨k,h,rfl⟩)
   ·cases hc:c.isT<;>rw[hc]at h
    ·simp at h
    ·exact⟨0,by simp[S.a7v.1 hc],by simpa[NV]using h⟩
   ·exact⟨k+1,by simpa using h,by omega⟩
  ·rintro⟨k,h,rfl⟩
   cases k with
   |zero=>simp at h;subst h;exact .inl (by simp[NV,S.isT])
   |succ k=>exact .inr ⟨k,by simpa using h,by omega⟩
theorem Y2 (X:List Nat):∀(cells:List S) (j:Nat),ZL X j cells=true->∀k c,cells[k]? =some c->(c=S.bool true\/(c=S.bool false/\X=[])\/c=S.xe (X.map λi=>(i,((j+k:Nat):Int))))
 |[],j,_,k,c,h=>by simp at h
 |x::r,j,hf,k,c,h=>by
  simp only[ZL,aeI]at hf
  cases k with
  |zero=>
   simp at h
   subst h
   have h1:=hf.1
   split at h1
   ·rename_i b
    cases b
    ·exact .inr (.inl ⟨rfl,by simpa using h1⟩)
    ·exact .inl rfl
   ·rw[su h1];exact .inr (.inr rfl)
   ·cases h1
  |succ k=>
   have:=Y2 X r (j+1) hf.2 k c (by simpa using h)
   rwa[show j+1+k=j+(k+1)by omega]at this
theorem Ey (r:Ren):∀l:List N,au (VS r) (l.map a9h) ((l.map NV).map (Value.int .i64))
 |[]=>trivial
 | .c n::l=>⟨rfl,Ey r l⟩
 | .x i::l=>⟨rfl,Ey r l⟩
theorem a8a {n:Nat}{cells l:List S}(h:a3D n cells=some l){r:Ren}{us:List Value}(hu:au (VS r) cells us):
  ∃bs:List Bool,us=bs.map Value.bool/\bs.length=n/\∀r',au (VS r') l ((incr 0 bs).map (Value.int .i64)):=by
 unfold a3D at h
 cases he:(oI cells).isEmpty<;>rw[he]at h<;>simp only[aeW,aeS]at h
 case true=>cases h
 cases hc:(aia cells.length n&&ZL (oI cells) 0 cells&&(oI cells).all (inN n))<;>rw[hc]at h<;>simp only[aeW,aeS]at h
 case false=>cases h
 obtain⟨L,hL,h⟩:=aj h
 cases h
 simp only[aeI]at hc
 obtain⟨⟨hlen,hfit⟩,hall⟩:=hc
 have hlen:=aeX hlen
 generalize hX:oI cells=X at *
 obtain⟨hs,hm⟩:=MZ hL
 have hfit:=Y2 X cells 0 hfit
 have hus:∃bs:List Bool,us=bs.map Value.bool:=by
  have key:∀(cs:List S) (vs:List Value),au (VS r) cs vs->(∀c∈cs,c=.bool true\/c=.bool false\/∃m,c=.xe m)->∃bs:List Bool,vs=bs.map Value.bool:=by
   intro cs
   induction cs with
   |nil=>intro vs h _;cases vs with |nil=>exact⟨[],rfl⟩|cons _ _=>exact h.elim
   |cons c cs ih=>
    intro vs h hc
    cases vs with
    |nil=>exact h.elim
    |cons v vs=>
     obtain⟨bs,rfl⟩:=ih vs h.2 λc hm=>hc c (afd _ hm)
     rcases hc c (by simp)with rfl|rfl|⟨m,rfl⟩
     ·exact⟨true::bs,by rw[show v=.bool true from h.1];rfl⟩
     ·exact⟨false::bs,by rw[show v=.bool false from h.1];rfl⟩
     ·exact⟨_::bs,by rw[show v=.bool _ from h.1];rfl⟩
  refine key cells us hu λc hc=>?_
  obtain⟨k,hk⟩:=afD hc
  rcases hfit k c hk with h|⟨h,_⟩|h
  ·exact .inl h
  ·exact .inr (.inl h)
  ·exact .inr (.inr ⟨_,h⟩)
 obtain⟨bs,rfl⟩:=hus
 have hbl:bs.length=n:=by have:=hu.len;simp at this;omega
 refine⟨bs,rfl,hbl,λr'=>?_⟩
 have e:L.map NV=incr 0 bs:=by
  refine LK hs (Fj bs 0) λx=>?_
  rw[hm x,afX,afl,JA,IX]
  have hin:∀i∈X,0<=Base.rho i/\Base.rho i<n:=λi hi=>by
   have:=aeV.1 hall i hi
   unfold inN at this
   cases hp:nth (α:=Int×Int) Know.iv i with
   |none=>rw[hp]at this;cases this
   |some p=>
    rw[hp]at this
    simp only[aeI,af6]at this
    have h2:=Base.ok.iv i p hp
    omega
  constructor
  ·rintro (h|⟨k,h,rfl⟩)
   ·simp only[agp,afo,Function.comp]at h
    obtain⟨i,hi,rfl⟩:=h
    obtain⟨h0,h1⟩:=hin i hi
    have hk:(Base.rho i).toNat<cells.length:=by omega
    have hc:cells[(Base.rho i).toNat]? =some (cells[(Base.rho i).toNat]):=aeK hk
    obtain⟨u,hu1,hu2⟩:=au.nth hu (by rw[aI];exact hc)
    refine⟨(Base.rho i).toNat,?_,by show Base.rho i=_;omega⟩
    rw[aeT]at hu1
    cases hb:bs[(Base.rho i).toNat]? with
    |none=>rw[hb]at hu1;cases hu1
    |some b=>
     rw[hb]at hu1
     cases hu1
     rcases hfit _ _ hc with h|⟨_,h⟩|h
     ·rw[h]at hu2
      cases hu2
      rfl
     ·rw[h]at hi;simp at hi
     ·rw[h]at hu2
      have:Value.bool b=.bool _:=hu2
      have hb':b=true:=by
       have e:=(Value.bool.inj this)
       rw[e,agk]
       refine⟨(i,_),afo.2 ⟨i,hi,rfl⟩,?_⟩
       simp
       omega
      rw[hb']
   ·obtain⟨u,hu1,hu2⟩:=au.nth hu (by rw[aI];exact h)
    cases hu2
    refine⟨k,?_,by omega⟩
    rw[aeT]at hu1
    cases hb:bs[k]? with
    |none=>rw[hb]at hu1;cases hu1
    |some b=>rw[hb]at hu1;simp at hu1;rw[hu1]
  ·rintro⟨k,h,rfl⟩
   have hk:k<cells.length:=by have:=(aeU.1 h).1;omega
   have hc:cells[k]? =some cells[k]:=aeK hk
   obtain⟨u,hu1,hu2⟩:=au.nth hu (by rw[aI];exact hc)
   rw[aeT,h]at hu1
   cases hu1
   rcases hfit _ _ hc with h|⟨h,_⟩|h
   ·exact .inr ⟨k,by rw[hc,h],by omega⟩
   ·rw[h]at hu2;cases hu2
   ·left
    rw[h]at hu2
    have:Value.bool true=.bool _:=hu2
    have e:=(Value.bool.inj this).symm
    rw[agk]at e
    obtain⟨p,hp,hd⟩:=e
    obtain⟨i,hi,rfl⟩:=afo.1 hp
    simp only[af6]at hd
    simp only[agp,afo,Function.comp]
    exact⟨i,hi,hd⟩
 rw[<-e]
 exact Ey r' L
theorem a3z {a:N}:∀{l l':List N},QT a l=some l'->0<l'.length
 |[],l',h=>by cases h;simp
 |b::r,l',h=>by
  have h:ob (ltX a b) (λl=>bif l then some (a::b::r)else ob (ltX b a) λl=>bif l then ob (QT a r) λr=>some (b::r)else some (b::r))=some l':=h
  obtain⟨c,_,h⟩:=aj h
  cases c
  ·simp only[aeS]at h
   obtain⟨d,_,h⟩:=aj h
   cases d
   ·simp only[aeS,afI]at h;subst h;simp
   ·simp only[aeW]at h
    obtain⟨r',_,h⟩:=aj h
    cases h
    simp
  ·simp only[aeW,afI]at h
   subst h
   simp
theorem a3W {n:Nat}{cells l:List S}(h:a3D n cells=some l):0<l.length:=by
 unfold a3D at h
 cases he:(oI cells).isEmpty<;>rw[he]at h<;>simp only[aeW,aeS]at h
 case true=>cases h
 cases hc:(aia cells.length n&&ZL (oI cells) 0 cells&&(oI cells).all (inN n))<;>rw[hc]at h<;>simp only[aeW,aeS]at h
 case false=>cases h
 obtain⟨L,hL,h⟩:=aj h
 cases h
 rw[af4]
 cases hX:oI cells with
 |nil=>rw[hX]at he;cases he
 |cons i X=>
  rw[hX]at hL
  obtain⟨m,_,hL⟩:=aj (show ob (Ht (X.map .x++Ec 0 cells)) (QT (.x i))=some L from hL)
  exact a3z hL
theorem Inv.newAt {h:Heap}{r:Ren}{B:Nat}{w w1:World}(hi:Inv h r B w){cs:List S}{C:Array Value}{T:TypeId}{fz:Nat×Nat}{g:Nat}(hg:w.heap.size<=g)
  (ho:w1.os=w.os) (ht:w1.tape=w.tape) (hout:w1.output=w.output) (hold:∀b,b<w.heap.size->w1.heap[b]? =w.heap[b]?)
  (hnew:w1.heap[g]? =some (.cells C T fz)) (hfz:∀i,i<=C.size->(fz.1<=i&&i<fz.2)=false)
  (hcs:∀i x,nth cs i=some x->∃u,C[i]? =some u/\VS r x u) (fl:Nat):
  Inv (h.alloc cs) (r.new h.next g C.size) B w1/\Adv fl h r w (h.alloc cs) (r.new h.next g C.size) w1:=by
 have hgs:g<w1.heap.size:=(aeN.1 hnew).1
 have hle:=r.SY h.next g C.size (Inv.not h hi)
 have hk:=(hi.hr.keep hi.b hold).mono hle
 have hb:(r.new h.next g C.size).blk h.next=g:=by simp[Ren.new]
 have hlt:∀l b,h.get l=some b->b.own=true->(r.new h.next g C.size).blk l<w.heap.size:=λl b hb ho=>by
  obtain⟨_,_,C',T',fz',h3,_⟩:=hi.hr.own l b hb ho
  rw[hle.blk l (hi.hr.dom l b hb)]
  exact(aeN.1 h3).1
 refine⟨⟨λl hl=>?_,by have:=hi.b;omega,?_⟩,?_⟩
 ·show l<h.next+1
  rcases hl with hl|hl
  ·have:=hi.n l hl;omega
  ·omega
 ·refine⟨λl b hb=>?_,λl b hb ho=>?_,λl b hb ho=>?_,λl b l' b' h1 o1 h2 o2 e=>?_,hk.nb,hk.z⟩
  ·rw[Heap.gI]at hb
   split at hb
   ·rename_i e;exact .inr e
   ·exact .inl (hi.hr.dom l b hb)
  ·rw[Heap.gI]at hb
   split at hb
   ·rename_i e;subst e
    cases hb
    refine⟨by rw[‹(r.new h.next g C.size).blk h.next=g›];have:=hi.b;omega,by simp[Ren.new],C,T,fz,by rw[‹(r.new h.next g C.size).blk h.next=g›];exact hnew,by simp[Ren.new],hfz,λi x hx=>?_⟩
    obtain⟨u,hu,hv⟩:=hcs i x hx
    exact⟨u,hu,VS.mono hle hv⟩
   ·exact hk.own l b hb ho
  ·rw[Heap.gI]at hb
   split at hb
   ·cases hb;cases ho
   ·exact hk.ro l b hb ho
  ·rw[Heap.gI]at h1 h2
   split at h1<;>split at h2
   ·omega
   ·rename_i e1 e2
    have:=hlt l' b' h2 o2
    rw[<-e,e1,hb]at this
    omega
   ·rename_i e1 e2
    have:=hlt l b h1 o1
    rw[e,e2,hb]at this
    omega
   ·exact hk.inj l b l' b' h1 o1 h2 o2 e
 ·refine⟨hle,ahC _,λl hl=>?_,ho,ht,hout,by omega,λb hb _=>hold b hb,λl hl _=>?_,λl b' hl hb=>?_,λl b' hl hb'=>?_⟩
  ·rcases hl with hl|hl
   ·exact .inl hl
   ·exact .inr (Nat.le_of_eq hl.symm)
  ·rw[Heap.gI,afc (by omega)]
  ·rw[Heap.gI,afc (by omega)]at hb
   exact⟨b',hb,rfl⟩
  ·rw[Heap.gI]at hb'
   split at hb'
   ·rename_i e
    cases hb'
    exact⟨rfl,.inl (by rw[e,hb];exact hg)⟩
   ·have:=hi.n l (hi.hr.dom l b' hb');omega
theorem Post.row {h:Heap}{r:Ren}{B fl:Nat}{w w1:World}(hi:Inv h r B w)(hb:Below w.heap.size w w1){cs:List S}{us:List Value}{g cap z n:Nat}{C:Array Value}{T:TypeId}(hg:w.heap.size<=g)
  (hnew:w1.heap[g]? =some (.cells C T (0,0))) (hz:0<z) (hn:n<=cap) (hmx:cap<=maxLen) (hcap:C.size=cap*z) (hus:C.toList.take us.length=us) (hcs:au (VS r) cs us):
  Post B fl h r w (.a (.s (.sl h.next 0 n z none))) (h.alloc cs) (.slice (some ⟨g,0,none⟩) n cap) w1:=by
 obtain⟨h1,h2⟩:=hi.newAt (w1:=w1) (cs:=cs) hg hb.os hb.tape hb.output hb.block hnew (λi _=>by simp) (λi x hx=>by
  obtain⟨u,hu,hv⟩:=au.nth hcs hx
  refine⟨u,?_,hv⟩
  rw[<-hus,afQ]at hu
  split at hu
  ·rw[<-afx];exact hu
  ·cases hu) fl
 refine⟨_,h1,?_,h2⟩
 rw[hcap]
 exact Vu r h.next g n z cap hz hn hmx
end
variable [Base]
section
variable {h:Heap} {r:Ren} {B fl:Nat} {w w1:World}
end
end Am
namespace Am
open Go.RowKit
noncomputable section
def WV:List (Nat×Nat)->List (Nat×Nat)->Bool
 |[],[]=>true
 |a::r,b::s=>aia a.1 b.1&&aia a.2 b.2&&WV r s
 |_,_=>false
def S.eqb (x y:S):Bool:=
 match x,y with
 | .ptr l o,.ptr l' o'=>aia l l'&&aia o o'
 | .sl l o n z c,.sl l' o' n' z' c'=>aia l l'&&aia o o'&&aia n n'&&aia z z'&&VY c c'
 | .sle,.sle=>true
 | .fn f cs,.fn g ds=>aia f g&&WV cs ds
 | .xe l,.xe m=>xw l m
 | .xa l b,.xa m c=>xw l m&&b==c
 | .px l o n i,.px l' o' n' i'=>aia l l'&&aia o o'&&aia n n'&&aia i i'
 | .rv k,.rv j=>aia k j
 | .pe k i o,.pe j i' o'=>aia k j&&i.eqv i'&&aia o o'
 |x,y=>x.same y
theorem Rj:∀{a b:List (Nat×Nat)},WV a b=true->a=b
 |[],[],_=>rfl
 |a::r,b::s,h=>by
  simp only[WV,aeI]at h
  obtain⟨⟨h1,h2⟩,h3⟩:=h
  rw[Rj h3,Prod.ext (aeX h1) (aeX h2)]
 |[],_::_,h=>by cases h
 |_::_,[],h=>by cases h
theorem N.y9 {a b:N}(h:a.eqv b=true):a=b:=by
 cases a<;>cases b<;>simp[N.eqv]at h<;>rw[h]
theorem S.ug {x y:S}(h:x.eqb y=true):x=y:=by
 letI:Base:=Base.known Know.nought (aC.nought (λ_=>0) (λ_=>[])) 0 default
 unfold S.eqb at h
 split at h
 ·simp only[aeI]at h
  rw[aeX h.1,aeX h.2]
 ·simp only[aeI]at h
  obtain⟨⟨⟨⟨h1,h2⟩,h3⟩,h4⟩,h5⟩:=h
  rw[aeX h1,aeX h2,aeX h3,aeX h4]
  congr 1
  unfold VY at h5
  split at h5
  ·rfl
  ·rw[aeX h5]
  ·cases h5
 ·rfl
 ·simp only[aeI]at h
  rw[aeX h.1,Rj h.2]
 ·rw[su h]
 ·simp only[aeI,ag4]at h
  rw[su h.1,h.2]
 ·simp only[aeI]at h
  obtain⟨⟨⟨h1,h2⟩,h3⟩,h4⟩:=h
  rw[aeX h1,aeX h2,aeX h3,aeX h4]
 ·rw[aeX h]
 ·simp only[aeI]at h
  rw[aeX h.1.1,N.y9 h.1.2,aeX h.2]
 ·exact(S.kG h).1
structure Bd where
 n:Nat
 s:Nat
 l:Nat
def N.below (b:Nat)(a:N):Bool:=match a with | .c _=>true| .x i=>aib i b
def S.below (d:Bd)(x:S):Bool:=match x with
 | .xi _ i=>aib i d.n
 | .xs l=>l.all λn=>aib n (256+d.s)
 | .xe l=>l.all λp=>aib p.1 d.n
 | .xa l _=>l.all λp=>aib p.1 d.n
 | .px _ _ _ i=>aib i d.n
 | .rv k=>aib k d.l
 | .pe k i _=>aib k d.l&&i.below d.n
 |_=>true
abbrev Th:=List (S×S)
def S.a8T (x:S):Bool:=match x with | .top=>true|_=>false
def a0f (d:Bd)(m:Nat)(th:Th)(y x:S):Bool:=y.refs.all (λl=>aib l m)&&(y.a8T||((y.below d&&y.eqb x)||th.any λp=>p.1.eqb y&&p.2.eqb x))
def a6z (d:Bd)(m:Nat)(th:Th)(y x:A):Bool:=match y,x with | .s y,.s x=>a0f d m th y x| .g l,.g k=>iT (a0f d m th) l k|_,_=>false
def abk (d:Bd)(m:Nat)(th:Th)(y x:V):Bool:=match y,x with | .any,_=>true| .a y,.a x=>a6z d m th y x| .t l,.t k=>iT (a6z d m th) l k|_,_=>false
def aai (d:Bd)(m:Nat)(th:Th)(b c:Blk):Bool:=(bif b.own then c.own else !c.own)&&iT (a0f d m th) b.cells c.cells
def wV (d:Bd)(th:Th)(hd s:St):Bool:=
 iT (abk d hd.h.next th) hd.fr s.fr&&hd.h.m.all (λp=>aib p.1 hd.h.next&&Option.rec false (λb=>aai d hd.h.next th p.2 b) (Hp.get s.h.m p.1))&&Nat.ble hd.h.next s.h.next
structure Agree (b1 b2:Base)(d:Bd):Prop where
 nb:b1.nb=b2.nb
 g:b1.g=b2.g
 n:∀i,i<d.n->b1.rho i=b2.rho i
 s:∀i,i<d.s->b1.sig i=b2.sig i
 l:∀i,i<d.l->b1.lst i=b2.lst i
variable {b1 b2:Base} {d:Bd}
theorem zH {α:Type}{f g:α->Bool}:∀{l:List α},(∀x∈l,f x=g x)->l.all f=l.all g
 |[],_=>rfl
 |x::l,h=>by rw[afz,afz,h x (by simp),zH λy hy=>h y (by simp[hy])]
theorem Jd {α:Type}{f g:α->Bool}:∀{l:List α},(∀x∈l,f x=g x)->l.any f=l.any g
 |[],_=>rfl
 |x::l,h=>by rw[agz,agz,h x (by simp),Jd λy hy=>h y (by simp[hy])]
theorem Jz (ag:Agree b1 b2 d):∀{l:List Nat},(l.all λn=>aib n (256+d.s))=true->bW b1.sig l=bW b2.sig l
 |[],_=>rfl
 |n::l,h=>by
  simp only[afz,aeI,afM]at h
  simp only[bW,Jz ag h.2]
  congr 1
  cases hn:aib n 256
  ·have h0:¬n<256:=by rw[<-afM,hn];simp
   simp only[aeS]
   exact ag.s _ (by omega)
  ·rfl
theorem VS.agree (ag:Agree b1 b2 d){r:Ren}{x:S}(hx:x.below d=true){v:Value}(h:@VS b1 r x v):@VS b2 r x v:=by
 cases x with
 |xi k i=>
  have hx:aib i d.n=true:=hx
  have h:v=.int k (b1.rho i):=h
  show v=.int k (b2.rho i)
  rw[h,ag.n i (by rwa[afM]at hx)]
 |xs l=>
  have h:v=.string ⟨(bW b1.sig l).toArray⟩:=h
  show v=.string ⟨(bW b2.sig l).toArray⟩
  rw[h,Jz ag hx]
 |xe l=>
  have h:v=.bool (l.any λp=>decide (b1.rho p.1=p.2)):=h
  show v=.bool (l.any λp=>decide (b2.rho p.1=p.2))
  rw[h]
  congr 1
  refine Jd λp hp=>?_
  have:=aeV.1 (show(l.all λp=>aib p.1 d.n)=true from hx) p hp
  rw[ag.n p.1 (by rwa[afM]at this)]
 |xa l c=>
  have h:v=.bool ((l.all λp=>decide (b1.rho p.1=p.2))==c):=h
  show v=.bool ((l.all λp=>decide (b2.rho p.1=p.2))==c)
  rw[h]
  congr 2
  refine zH λp hp=>?_
  have:=aeV.1 (show(l.all λp=>aib p.1 d.n)=true from hx) p hp
  rw[ag.n p.1 (by rwa[afM]at this)]
 |px l o n i=>
  have hx:aib i d.n=true:=hx
  have h:r.ok l/\0<=b1.rho i/\b1.rho i<n/\v=.pointer (some (r.at l (o+(b1.rho i).toNat))):=h
  show r.ok l/\0<=b2.rho i/\b2.rho i<n/\v=.pointer (some (r.at l (o+(b2.rho i).toNat)))
  rwa[<-ag.n i (by rwa[afM]at hx)]
 |rv k=>
  have hx:aib k d.l=true:=hx
  have h:∃A n c,(b1.lst k).v=.slice A n c/\v=.slice A n c:=h
  show ∃A n c,(b2.lst k).v=.slice A n c/\v=.slice A n c
  rwa[<-ag.l k (by rwa[afM]at hx)]
 |pe k i o=>
  have hx:(aib k d.l&&i.below d.n)=true:=hx
  simp only[aeI,afM]at hx
  obtain⟨b,off,el,⟨h1,h2⟩,h3⟩:=h
  have e:@NV b1 i=@NV b2 i:=by
   cases i with
   |c n=>rfl
   |x i=>exact ag.n i (by have:=hx.2;simpa[N.below,afM]using this)
  refine⟨b,off,el,⟨by rw[<-ag.l k hx.1,<-e];exact h1,λf u hf w hw=>h2 f u hf w λc hc=>?_⟩,h3⟩
  have hc:c<b1.nb:=hc
  show w.heap[c]? =b1.g c
  rw[ag.g]
  exact hw c (by show c<b2.nb;rw[<-ag.nb];exact hc)
 |sl l o n z c=>cases c<;>exact h
 |_=>exact h
def Th.ok (b1 b2:Base)(th:Th):Prop:=∀p∈th,∀r v,@VS b1 r p.2 v->@VS b2 r p.1 v
theorem VS.adW [Base]{r:Ren}{m:Nat}{x:S}{v:Value}(hx:(x.refs.all λl=>aib l m)=true)(h:VS r x v):VS (r.cut m) x v:=by
 cases x with
 |ptr l o=>
  simp only[S.refs,afz,aeI,afM]at hx
  exact⟨⟨h.1,hx.1⟩,h.2⟩
 |px l o n i=>
  simp only[S.refs,afz,aeI,afM]at hx
  exact⟨⟨h.1,hx.1⟩,h.2⟩
 |sl l o n z c=>
  simp only[S.refs,afz,aeI,afM]at hx
  cases c with
  |none=>exact⟨⟨h.1,hx.1⟩,h.2⟩
  |some c=>exact⟨⟨h.1,hx.1⟩,h.2⟩
 |fn f cs=>
  refine⟨λp hp=>⟨h.1 p hp,?_⟩,h.2⟩
  have:=aeV.1 hx p.1 (by simp only[S.refs];exact afo.2 ⟨p,hp,rfl⟩)
  rwa[afM]at this
 |_=>exact h
theorem Gi (ag:Agree b1 b2 d){th:Th}(ht:Th.ok b1 b2 th){m:Nat}{y x:S}(h:a0f d m th y x=true){r:Ren}{v:Value}(hv:@VS b1 r x v):@VS b2 (r.cut m) y v:=by
 unfold a0f at h
 simp only[aeI,afJ]at h
 obtain⟨h0,h⟩:=h
 refine @VS.adW b2 _ _ _ _ h0 ?_
 rcases h with h|⟨h1,h2⟩|h
 ·cases y<;>simp[S.a8T]at h
  exact @VS.one b1 _ _ _ hv
 ·rw[S.ug h2]at h1 |-
  exact VS.agree ag h1 hv
 ·obtain⟨p,hp,h⟩:=agk.1 h
  simp only[aeI]at h
  have:=ht p hp r v (by rw[S.ug h.2];exact hv)
  rwa[S.ug h.1]at this
theorem wM {α β:Type}{f:α->α->Bool}{R R':α->β->Prop}(hf:∀y x v,f y x=true->R x v->R' y v):∀{l k:List α} {vs:List β},iT f l k=true->au R k vs->au R' l vs
 |[],[],[],_,_=>trivial
 |y::l,x::k,v::vs,h,hv=>by
  simp only[iT,aeI]at h
  exact⟨hf y x v h.1 hv.1,wM hf h.2 hv.2⟩
 |[],[],_::_,_,hv=>hv.elim
 |_::_,_::_,[],_,hv=>hv.elim
 |[],_::_,_,h,_=>by cases h
 |_::_,[],_,h,_=>by cases h
theorem Vq (ag:Agree b1 b2 d){th:Th}(ht:Th.ok b1 b2 th){m:Nat}{y x:A}(h:a6z d m th y x=true){r:Ren}{v:Value}(hv:@VA b1 r x v):@VA b2 (r.cut m) y v:=by
 unfold a6z at h
 split at h
 ·exact Gi ag ht h hv
 ·obtain⟨vs,e,hv⟩:=hv
  exact⟨vs,e,wM (R:=@VS b1 r) (R':=@VS b2 (r.cut m)) (λy x v h hv=>Gi ag ht h hv) h hv⟩
 ·cases h
theorem a6I (ag:Agree b1 b2 d){th:Th}(ht:Th.ok b1 b2 th){m:Nat}{y x:V}(h:abk d m th y x=true){r:Ren}{v:Value}(hv:@VV b1 r x v):@VV b2 (r.cut m) y v:=by
 unfold abk at h
 split at h
 ·trivial
 ·exact Vq ag ht h hv
 ·obtain⟨vs,e,hv⟩:=hv
  exact⟨vs,e,wM (R:=@VA b1 r) (R':=@VA b2 (r.cut m)) (λy x v h hv=>Vq ag ht h hv) h hv⟩
 ·cases h
theorem DI {α:Type}{f:α->α->Bool}:∀{l k:List α},iT f l k=true->∀i y,nth l i=some y->∃x,nth k i=some x/\f y x=true
 |[],[],_,i,y,h=>by simp[Bh]at h
 |a::l,b::k,h,0,y,e=>by
  simp only[iT,aeI]at h
  simp only[oN,afI]at e
  subst e
  exact⟨b,rfl,h.1⟩
 |a::l,b::k,h,i+1,y,e=>by
  simp only[iT,aeI]at h
  exact DI h.2 i y e
 |[],_::_,h,_,_,_=>by cases h
 |_::_,[],h,_,_,_=>by cases h
structure Parts (bb:Base)(s:St)(r:Ren)(B:Nat)(a:Act)(w:World):Prop where
 f:au (@VV bb r) s.fr a.tmps.toList
 n:∀l,r.ok l->l<s.h.next
 b:B<=w.heap.size
 dom:∀l k,s.h.get l=some k->r.ok l
 own:∀l k,s.h.get l=some k->k.own=true->B<=r.blk l/\r.off l=0/\∃C T fz,w.heap[r.blk l]? =some (.cells C T fz)/\C.size=r.cap l/\
  (∀i,i<=C.size->(fz.1<=i&&i<fz.2)=false)/\∀i x,nth k.cells i=some x->∃u,C[i]? =some u/\@VS bb r x u
 ro:∀l k,s.h.get l=some k->k.own=false->r.blk l<B/\∀i x,nth k.cells i=some x->∃u,w.cell? (r.at l i)=some u/\@VS bb r x u
 inj:∀l k l' k',s.h.get l=some k->k.own=true->s.h.get l'=some k'->k'.own=true->r.blk l=r.blk l'->l=l'
 nb:bb.nb<=B
 z:∀c,c<bb.nb->w.heap[c]? =bb.g c
omit b1 b2 in
theorem Rel.parts [b:Base]{s:St}{r:Ren}{B:Nat}{a:Act}{w:World}(h:Rel s r B a w):Parts b s r B a w:=
 ⟨h.f,h.i.n,h.i.b,h.i.hr.dom,h.i.hr.own,h.i.hr.ro,h.i.hr.inj,h.i.hr.nb,h.i.hr.z⟩
theorem yw (ag:Agree b1 b2 d){th:Th}(ht:Th.ok b1 b2 th){hd s:St}(h:wV d th hd s=true){r:Ren}{B:Nat}{a:Act}{w:World}(hr:@Rel b1 s r B a w):
  @Rel b2 hd (r.cut hd.h.next) B a w/\∀{fl:Nat} {h0:Heap} {r0:Ren} {w0:World},(∀l,r0.ok l->l<h0.next)->h0.next=hd.h.next->Adv fl h0 r0 w0 s.h r w->
   (∀l,l<h0.next->l<fl->hd.h.get l=h0.get l)->Adv fl h0 r0 w0 hd.h (r.cut hd.h.next) w:=by
 unfold wV at h
 simp only[aeI]at h
 obtain⟨⟨hfr,hm⟩,hn⟩:=h
 have hn:=aff hn
 have hget:∀l b,hd.h.get l=some b->l<hd.h.next/\∃c,s.h.get l=some c/\b.own=c.own/\iT (a0f d hd.h.next th) b.cells c.cells=true:=λl b hb=>by
  have:=aeV.1 hm (l,b) (a2g hb)
  simp only[aeI,afM]at this
  obtain⟨h1,h2⟩:=this
  refine⟨h1,?_⟩
  cases hc:Hp.get s.h.m l with
  |none=>rw[hc]at h2;cases h2
  |some c=>
   rw[hc]at h2
   have h2:aai d hd.h.next th b c=true:=h2
   unfold aai at h2
   simp only[aeI]at h2
   refine⟨c,hc,?_,h2.2⟩
   have h3:=h2.1
   cases hb':b.own<;>cases hc':c.own<;>rw[hb',hc']at h3<;>simp at h3<;>rfl
 obtain⟨hf0,pn,pb,pdom,pown,pro,pinj,pnb,pz⟩:=@Rel.parts b1 _ _ _ _ _ hr
 have hok:∀l b,hd.h.get l=some b->(r.cut hd.h.next).ok l:=λl b hb=>by
  obtain⟨h1,c,h2,_⟩:=hget l b hb
  exact⟨pdom l c h2,h1⟩
 constructor
 ·refine⟨wM (R:=@VV b1 r) (R':=@VV b2 (r.cut hd.h.next)) (λy x v h hv=>a6I ag ht h hv) hfr hf0,⟨λl hl=>hl.2,pb,⟨hok,λl b hb ho=>?_,λl b hb ho=>?_,λl b l' b' e1 o1 e2 o2 e=>?_,?_,?_⟩⟩⟩
  ·obtain⟨_,c,h2,h3,h4⟩:=hget l b hb
   obtain⟨q1,q2,C,T,fz,q3,q4,q5,q6⟩:=pown l c h2 (h3▸ho)
   refine⟨q1,q2,C,T,fz,q3,q4,q5,λi x hx=>?_⟩
   obtain⟨x',hx',hf⟩:=DI h4 i x hx
   obtain⟨u,hu,hv⟩:=q6 i x' hx'
   exact⟨u,hu,Gi ag ht hf hv⟩
  ·obtain⟨_,c,h2,h3,h4⟩:=hget l b hb
   obtain⟨q1,q2⟩:=pro l c h2 (by rw[<-h3];exact ho)
   refine⟨q1,λi x hx=>?_⟩
   obtain⟨x',hx',hf⟩:=DI h4 i x hx
   obtain⟨u,hu,hv⟩:=q2 i x' hx'
   exact⟨u,hu,Gi ag ht hf hv⟩
  ·obtain⟨_,c,h2,h3,_⟩:=hget l b e1
   obtain⟨_,c',h2',h3',_⟩:=hget l' b' e2
   exact pinj l c l' c' h2 (h3▸o1) h2' (h3'▸o2) e
  ·show b2.nb<=B
   rw[<-ag.nb]
   exact pnb
  ·intro c hc
   have hc:c<b2.nb:=hc
   show w.heap[c]? =b2.g c
   rw[<-ag.g]
   exact pz c (by show c<b1.nb;rw[ag.nb];exact hc)
 ·intro fl h0 r0 w0 i0 hnx ad hkeep
  refine⟨⟨λl hl=>⟨ad.le.n l hl,by rw[<-hnx];exact i0 l hl⟩,ad.le.blk,ad.le.off,ad.le.cap⟩,by omega,λl hl=>ad.okn l hl.1,ad.os,ad.tape,ad.output,ad.size,ad.frame,hkeep,λl b' hl hb=>?_,λl b' hl hb=>?_⟩
  ·obtain⟨_,c,h2,h3,_⟩:=hget l b' hb
   obtain⟨b,e1,e2⟩:=ad.old l c hl h2
   exact⟨b,e1,e2.trans h3.symm⟩
  ·have:=(hget l b' hb).1
   omega
end
noncomputable section
theorem Adv.trans' {fl:Nat}{m m' m'':Heap}{r r' r'':Ren}{w w' w'':World}(d:∀l b,m.get l=some b->r.ok l)(d':∀l b,m'.get l=some b->r'.ok l)
  (h:Adv fl m r w m' r' w') (k:Adv fl m' r' w' m'' r'' w''):Adv fl m r w m'' r'' w'' where
 le:=⟨λl hl=>k.le.n l (h.le.n l hl),λl hl=>(k.le.blk l (h.le.n l hl)).trans (h.le.blk l hl),λl hl=>(k.le.off l (h.le.n l hl)).trans (h.le.off l hl),λl hl=>(k.le.cap l (h.le.n l hl)).trans (h.le.cap l hl)⟩
 nn:=afv h.nn k.nn
 okn l hl:=by
  rcases k.okn l hl with g|g
  ·exact h.okn l g
  ·exact .inr (afv h.nn g)
 os:=k.os.trans h.os
 tape:=k.tape.trans h.tape
 output:=k.output.trans h.output
 size:=afv h.size k.size
 frame b hb hno:=by
  rw[k.frame b (afe hb h.size) ?_,h.frame b hb hno]
  intro l c hc ho hfl he
  by_cases hl:l<m.next
  ·obtain⟨c',hc',ho'⟩:=h.old l c hl hc
   rw[h.le.blk l (d l c' hc')]at he
   exact hno l c' hc' (ho'.trans ho) hfl he
  ·rcases(h.fresh l c (ag2 hl) hc).2 with hs|⟨l0,b0,h0,o0,f0,e0⟩
   ·omega
   ·exact hno l0 b0 h0 o0 f0 (e0.symm.trans he)
 keep l hl hfl:=by rw[k.keep l (afe hl h.nn) hfl,h.keep l hl hfl]
 old l b' hl hb:=by
  obtain⟨c,hc,oc⟩:=k.old l b' (afe hl h.nn) hb
  obtain⟨e,hd,od⟩:=h.old l c hl hc
  exact⟨e,hd,od.trans oc⟩
 fresh l b' hl hb:=by
  by_cases hl':l<m'.next
  ·obtain⟨c,hc,oc⟩:=k.old l b' hl' hb
   rw[k.le.blk l (d' l c hc),<-oc]
   exact h.fresh l c hl hc
  ·obtain⟨ho,hh⟩:=k.fresh l b' (ag2 hl') hb
   refine⟨ho,?_⟩
   rcases hh with hs|⟨l0,b0,h0,o0,f0,e0⟩
   ·exact .inl (afv h.size hs)
   ·by_cases h00:l0<m.next
    ·obtain⟨c,hc,oc⟩:=h.old l0 b0 h00 h0
     exact .inr ⟨l0,c,hc,oc.trans o0,f0,by rw[e0,h.le.blk l0 (d l0 c hc)]⟩
    ·rcases(h.fresh l0 b0 (ag2 h00) h0).2 with hs|⟨l1,b1,h1,o1,f1,e1⟩
     ·exact .inl (by rw[e0];exact hs)
     ·exact .inr ⟨l1,b1,h1,o1,f1,by rw[e0,e1]⟩
def Goes (bo:Base)(B:Nat)(h:Heap)(r:Ren)(a:Act)(w:World)(x:X)(s1:St)(e:Exit)(a':Act)(w':World):Prop:=
 XR x e/\∃r',@Rel bo s1 r' B a' w'/\Adv 0 h r w s1.h r' w'/\a'.defers=a.defers
def Turns (P:Program)(b1 b2:Base)(c:Code)(hd:St)(x:X)(s1:St):Prop:=
 ∀{r:Ren} {B:Nat} {a:Act} {w:World},@Rel b1 hd r B a w->c.wp P (Goes b2 B hd.h r a w x s1) a w
theorem Parts.ok {bb:Base}{s:St}{r:Ren}{B:Nat}{a:Act}{w:World}(h:@Rel bb s r B a w):Parts bb s r B a w:=@Rel.parts bb s r B a w h
theorem Fb {P:Program}{b:Nat->Base}{bo:Base}{c:Code}{hd s1:St}{x:X}(hx:x≠.normal){N:Nat}(step:∀k,k<N->Turns P (b k) (b (k+1)) c hd .normal hd)(last:Turns P (b N) bo c hd x s1):
  ∀m k,k+m=N->∀{r:Ren} {B:Nat} {a:Act} {w:World},@Rel (b k) hd r B a w->∀(f:Frame) (K:List Item) (cs:List Frame),
   ∃e a' w',Goes bo B hd.h r a w x s1 e a' w'/\Arrives P (lone (f.at a (.code c::.inLoop c::K)) cs w) f K cs e a' w'
 |0,k,hk,r,B,a,w,hr,f,K,cs=>by
  obtain rfl:k=N:=by omega
  obtain⟨e,a1,w1,ho,harr⟩:=last hr f (.inLoop c::K) cs
  refine⟨e,a1,w1,ho,.pass (x:=.inLoop c) rfl (λ_ _=>.inl ?_) harr⟩
  intro he
  subst he
  cases x<;>simp[Goes,XR]at ho
  exact hx rfl
 |m+1,k,hk,r,B,a,w,hr,f,K,cs=>by
  obtain⟨e,a1,w1,⟨h3,r1,h4,h5,h6⟩,harr⟩:=step k (by omega) hr f (.inLoop c::K) cs
  cases e<;>simp only[XR]at h3
  obtain⟨e2,a2,w2,⟨k3,r2,k4,k5,k6⟩,harr2⟩:=Fb hx step last m (k+1) (by omega) h4 f K cs
  exact⟨e2,a2,w2,⟨k3,r2,k4,Adv.trans' (Parts.ok hr).dom (Parts.ok h4).dom h5 k5,k6.trans h6⟩,.of_steps (Steps.trans harr (.one step_inLoop)) harr2⟩
def jh (tag:Nat)(d:Bd)(th:Th)(hd:St)(x:X)(s1:St):Loops:=λt fl s=>
 bif aia t tag&&aia fl 0&&aia s.h.next hd.h.next&&wV d th hd s then some (x,s1)else none
theorem Nz {P:Program}{bo:Base}{b:Nat->Base}{c:Code}{d:Bd}{th:Th}{hd s1:St}{x:X}(hx:x≠.normal){N:Nat}(ag:Agree bo (b 0) d)(ht:Th.ok bo (b 0) th)
  (step:∀k,k<N->Turns P (b k) (b (k+1)) c hd .normal hd) (last:Turns P (b N) bo c hd x s1) (tag:Nat):@aO bo P (jh tag d th hd x s1) c:=by
 intro fl B s s' y r a w hr hl
 unfold jh at hl
 cases hc:(aia c.tag tag&&aia fl 0&&aia s.h.next hd.h.next&&wV d th hd s)<;>rw[hc]at hl<;>simp only[aeW,aeS]at hl
 ·cases hl
 cases hl
 simp only[aeI]at hc
 obtain⟨⟨⟨_,hf⟩,hnx⟩,hfit⟩:=hc
 obtain rfl:=aeX hf
 have hnx:=aeX hnx
 obtain⟨k1,k2⟩:=yw ag ht hfit hr
 have hadv:=k2 (Parts.ok hr).n hnx (@Adv.refl bo 0 s.h r B w hr.i) (λl _ h=>absurd h (ag7 l))
 intro f K cs
 obtain⟨e,a',w',⟨g1,r',g2,g3,g4⟩,harr⟩:=Fb hx step last N 0 (by omega) k1 f K cs
 exact⟨e,a',w',⟨g1,r',g2,Adv.trans' (Parts.ok hr).dom (Parts.ok k1).dom hadv g3,g4⟩,.of_steps (.one step_loop) harr⟩
@[reducible] def Base.aF (b : Base)(K : Know)(ok : aC K b.rho b.sig) : Base := { K with nb := b.nb, g := b.g, rho := b.rho, sig := b.sig, ok := ok, lst := b.lst }
theorem Rel.aF (b:Base){K:Know}(ok:aC K b.rho b.sig){s:St}{r:Ren}{B:Nat}{a:Act}{w:World}(h:@Rel b s r B a w):@Rel (b.aF K ok) s r B a w:=by
 obtain⟨f,n,bb,dom,own,ro,inj,nb,z⟩:=Parts.ok h
 exact @Rel.mk (b.aF K ok) _ _ _ _ _ f (@Inv.mk (b.aF K ok) _ _ _ _ n bb (@HR.mk (b.aF K ok) _ _ _ _ dom own ro inj nb z))
def X.same (x y:X):Bool:=match x,y with | .normal,.normal=>true| .exit i,.exit j=>aia i j| .ret,.ret=>true|_,_=>false
theorem X.kG {x y:X}(h:x.same y=true):x=y:=by
 cases x<;>cases y<;>simp[X.same]at h
 ·rfl
 ·rw[h]
 ·rfl
def oC (d:Bd)(th:Th)(x:X)(s1:St)(r:XS):Bool:=Option.rec false (λp=>X.same p.1 x&&wV d th s1 p.2) r
theorem Un {P:Program}(hm:P.follows .mixedOrders=true){b1 b2:Base}{d:Bd}(ag:Agree b1 b2 d){c:Code}{hd s1:St}(hnx:hd.h.next=s1.h.next){x:X}{n:Nat}{ss:List Nat}{L0:Lf}{sp:Sp}
  (h0:L0.Holds b1.rho b1.sig) (hl:Lens ss b1.rho b1.sig) (C:Lf->Ctx) (th:Lf->Th)
  (hty:∀L (h:L.Holds b1.rho b1.sig),@eY (b1.aF (L.know ss) (Lf.ok h hl)) P (C L).ty) (hC:∀L (h:L.Holds b1.rho b1.sig),@tu (b1.aF (L.know ss) (Lf.ok h hl)) P (C L))
  (hL:∀L (h:L.Holds b1.rho b1.sig),Loops.ok (@aO (b1.aF (L.know ss) (Lf.ok h hl)) P (C L).loop) c) (hth:∀L,L∈sp.leaves L0->L.Holds b1.rho b1.sig->Th.ok b1 b2 (th L))
  (hrun:((sp.leaves L0).all λL=>oC d (th L) x s1 (@exec (L.know ss) (C L) 0 n c hd))=true):Turns P b1 b2 c hd x s1:=by
 intro r B a w hr
 obtain⟨L,hmem,hLh⟩:=sp.cover h0
 have hrun:=aeV.1 hrun L hmem
 cases he:@exec (L.know ss) (C L) 0 n c hd with
 |none=>rw[he]at hrun;cases hrun
 |some p=>
  obtain⟨y,s⟩:=p
  rw[he]at hrun
  have hrun:(X.same y x&&wV d (th L) s1 s)=true:=hrun
  simp only[aeI]at hrun
  obtain rfl:=X.kG hrun.1
  refine wp_mono (@Ph (b1.aF (L.know ss) (Lf.ok hLh hl)) P (C L) 0 (hty L hLh) (hC L hLh) hm n c (hL L hLh) B hd s y r a w (Rel.aF b1 _ hr) he) λe a' w' ⟨h1,r',h2,h3,h4⟩=>?_
  have ag':Agree (b1.aF (L.know ss) (Lf.ok hLh hl)) b2 d:=⟨ag.nb,ag.g,ag.n,ag.s,ag.l⟩
  obtain⟨k1,k2⟩:=yw ag' (hth L hmem hLh) hrun.2 h2
  exact⟨h1,_,k1,k2 (Parts.ok hr).n hnx h3 (λl _ h=>absurd h (ag7 l)),h4⟩
def gX (c:Code):List Code:=
 Code.rec (motive:=λ_=>List Code) [] (λ_ _ _=>[]) (λ_ _ a b=>a++b) (λ_ _ _ a b=>a++b) (λ_ _ a=>a) (λc a=>c::a) (λ_ _ _ _ _ _=>[]) (λ_=>[]) (λ_ a=>a) (λ_=>[]) (λ_=>[]) [] (λ_=>[]) c
def dZ (F:Func)(i:Nat):Code:=Option.rec .skip (λc=>(nth (gX c) i).getD .skip) F.body
theorem Loops.a96 {Q:Code->Prop}:∀c:Code,(∀d∈gX c,Q d)->Loops.ok Q c:=by
 intro c
 induction c with
 |seq c d hc hd=>exact λh=>⟨hc λe he=>h e (afl.2 (.inl he)),hd λe he=>h e (afl.2 (.inr he))⟩
 |cond c t e ht he=>exact λh=>⟨ht λe he=>h e (afl.2 (.inl he)),he λe he=>h e (afl.2 (.inr he))⟩
 |block id c hc=>exact hc
 |loop c hc=>exact λh=>⟨h c (afh ..),hc λe he=>h e (afd _ he)⟩
 |scope c hc=>exact hc
 |_=>exact λ_=>trivial
theorem Loops.a1T {P:Program}{bo:Base}{F:Func}{c:Code}(hF:F.body=some c){i tag:Nat}{d:Bd}{th:Th}{hd s1:St}{x:X}
  (hu:((gX c).map Code.tag).Nodup) (hi:i<(gX c).length) (htag:(dZ F i).tag=tag) (h:@aO bo P (jh tag d th hd x s1) (dZ F i)):Loops.ok (@aO bo P (jh tag d th hd x s1)) c:=by
 refine Loops.a96 c λe he=>?_
 have hat:dZ F i=(gX c)[i]:=by
  unfold dZ
  rw[hF]
  show(nth (gX c) i).getD .skip=_
  rw[aI,aeK hi]
  rfl
 rcases Decidable.em (e.tag=tag)with ht|ht
 ·obtain⟨j,hj,rfl⟩:=ahi he
  have:j=i:=by
   have h1:((gX c).map Code.tag)[j]'(by simpa using hj)=((gX c).map Code.tag)[i]'(by simpa using hi):=by
    simp only[List.getElem_map]
    rw[ht,<-htag,hat]
   exact(List.getElem_inj hu).1 h1
  subst this
  rw[<-hat]
  exact @h
 ·intro fl B s s' y r a w _ hl
  unfold jh at hl
  have:aia e.tag tag=false:=by
   cases hb:aia e.tag tag
   ·rfl
   ·exact absurd (aeX hb) ht
  rw[this]at hl
  cases hl
def dV (T:List (FuncId×Loops)):FuncId->Loops:=λf t fl s=>List.rec none (λp _ ih=>bif aia p.1 f then Pg (p.2 t fl s) ih else ih) T
theorem aO.or {P:Program}{bo:Base}{L M:Loops}{c:Code}(h:@aO bo P L c)(k:@aO bo P M c):@aO bo P (λt fl s=>Pg (L t fl s) (M t fl s)) c:=by
 intro fl B s s' x r a w hr hl
 have hl:Pg (L c.tag fl s) (M c.tag fl s)=some (x,s'):=hl
 cases ho:L c.tag fl s with
 |none=>rw[ho]at hl;exact k hr hl
 |some p=>rw[ho]at hl;cases hl;exact h hr ho
theorem Loops.Gl {Q R:Code->Prop}(h:∀c,Q c->R c)(c:Code):Loops.ok Q c->Loops.ok R c:=by
 induction c with
 |seq c d hc hd=>exact λk=>⟨hc k.1,hd k.2⟩
 |cond c t e ht he=>exact λk=>⟨ht k.1,he k.2⟩
 |block id c hc=>exact hc
 |loop c hc=>exact λk=>⟨h _ k.1,hc k.2⟩
 |scope c hc=>exact hc
 |_=>exact λ_=>trivial
theorem Loops.a2l {Q R:Code->Prop}(c:Code):Loops.ok Q c->Loops.ok R c->Loops.ok (λc=>Q c/\R c) c:=by
 induction c with
 |seq c d hc hd=>exact λh k=>⟨hc h.1 k.1,hd h.2 k.2⟩
 |cond c t e ht he=>exact λh k=>⟨ht h.1 k.1,he h.2 k.2⟩
 |block id c hc=>exact hc
 |loop c hc=>exact λh k=>⟨⟨h.1,k.1⟩,hc h.2 k.2⟩
 |scope c hc=>exact hc
 |_=>exact λ_ _=>trivial
theorem Di {P:Program}{bo:Base}(T:List (FuncId×Loops))(h:∀p∈T,∀F c,P.funcs[p.1]? =some F->F.body=some c->Loops.ok (@aO bo P p.2) c):
  ∀f F c,P.funcs[f]? =some F->F.body=some c->Loops.ok (@aO bo P (dV T f)) c:=by
 intro f F c hF hc
 induction T with
 |nil=>
  have key:∀c,@aO bo P (dV [] f) c:=by
   intro c fl B s s' x r a w _ h
   cases h
  exact Loops.wJ key c
 |cons p T ih=>
  have ih:=ih λq hq=>h q (afd _ hq)
  cases hb:aia p.1 f with
  |false=>
   refine Loops.Gl (λc hQ=>?_) c ih
   intro fl B s s' x r a w hr hl
   have hl:(bif aia p.1 f then Pg (p.2 c.tag fl s) (dV T f c.tag fl s)else dV T f c.tag fl s)=some (x,s'):=hl
   rw[hb]at hl
   exact hQ hr hl
  |true=>
   have e:=aeX hb
   refine Loops.Gl (λc hQ=>?_) c (Loops.a2l c (h p (afh ..) F c (by rw[e];exact hF) hc) ih)
   intro fl B s s' x r a w hr hl
   have hl:(bif aia p.1 f then Pg (p.2 c.tag fl s) (dV T f c.tag fl s)else dV T f c.tag fl s)=some (x,s'):=hl
   rw[hb]at hl
   exact aO.or hQ.1 hQ.2 hr hl
end
inductive E where
 |lt (i:Nat) (c:Int)
 |zero (l:List (Nat×Int))
 |and (a b:E)
 |or (a b:E)
 |not (a:E)
def ah (vs:List Value)(i:Nat):Int:=match vs[i]? with |some v=>bD v|none=>0
def E.val (vs:List Value):E->Bool
 | .lt i c=>decide (ah vs i<c)
 | .zero l=>l.all λp=>decide (ah vs p.1=p.2)
 | .and a b=>a.val vs&&b.val vs
 | .or a b=>a.val vs||b.val vs
 | .not a=>!a.val vs
noncomputable section
variable [Know]
def Wy (x:S)(c:Int):Option Q:=match x with
 | .int _ n=>some (.b (decide (n=c)))
 | .xi _ i=>Option.rec (some (qA i c)) (λb=>some (.b b)) (eqC i c)
 | .bool b=>some (.b (decide ((bif b then 1 else 0)=c)))
 | .xe l=>bif decide (c=0)then MJ l false else bif decide (c=1)then MJ l true else none
 |_=>none
def VT (xs:List S):List (Nat×Int)->Option Q:=
 List.rec (some (.b true)) λp _ ih=>ob (nth xs p.1) λx=>ob (Wy x p.2) λq=>ob ih λr=>some (q.and r)
def Q.told (q:Q):Option Bool:=match q with | .b x=>some x| .c l=>OX l
def JI (x y:Option Bool):Option Bool:=Option.rec (ob y λb=>bif b then none else some false) (λb=>bif b then y else some false) x
def E.abs (xs:List S)(e:E):Option Bool:=
 E.rec (λi c=>ob (nth xs i) λx=>ob x.num λp=>ltX p.2 (.c c)) (λl=>ob (VT xs l) Q.told) (λ_ _ a b=>JI a b) (λ_ _ a b=>uo (JI (uo a) (uo b))) (λ_ a=>uo a) e
def aaU (k:Kd)(x:S):Bool:=match k,x with
 | .b,.bool _=>true
 | .b,.xe _=>true
 | .i k,.int k' n=>k==k'&&decide (k.min<=n)&&decide (n<=k.max)
 | .i k,.xi k' i=>bif k==k' then Option.rec false (λp=>decide (k.min<=p.1)&&decide (p.2<=k.max)) (nth Know.iv i)else false
 |_,_=>false
def Qj:List Kd->List S->Bool
 |[],[]=>true
 |k::ks,x::xs=>aaU k x&&Qj ks xs
 |_,_=>false
def a0L (ks:List Kd)(e:E)(mk:Bool->V)(args:List A):Option V:=match args with
 |[.g cells]=>bif Qj ks cells then ob (e.abs cells) λb=>some (mk b)else none
 |_=>none
end
section
variable [Base] {r:Ren}
theorem a1U {x:S}{c:Int}{q:Q}(h:Wy x c=some q){v:Value}(hv:VS r x v):q.val=decide (bD v=c):=by
 unfold Wy at h
 split at h
 ·cases h;cases hv;rfl
 ·rename_i k i
  cases hv
  cases he:eqC i c with
  |none=>rw[he]at h;cases h;show(_&&true)=_;rw[afg];exact afG.2 Iff.rfl
  |some b=>rw[he]at h;cases h;exact(vZ he).symm.trans (afG.2 Iff.rfl)
 ·rename_i b
  cases h;cases hv
  cases b<;>simp[Q.val,bD]
 ·rename_i l
  cases hv
  cases h0:decide (c=0)<;>rw[h0]at h<;>simp only[aeW,aeS]at h
  ·cases h1:decide (c=1)<;>rw[h1]at h<;>simp only[aeW,aeS]at h
   ·cases h
   ·simp only[af6]at h1
    subst h1
    rw[Dl h]
    cases(l.any λp=>decide (Base.rho p.1=p.2))<;>simp[bD]
  ·simp only[af6]at h0
   subst h0
   rw[Dl h]
   cases(l.any λp=>decide (Base.rho p.1=p.2))<;>simp[bD]
 ·cases h
theorem a6O {q:Q}{b:Bool}(h:q.told=some b):q.val=b:=by
 cases q with
 |b x=>cases h;rfl
 |c l=>exact WJ h
theorem Hu {vs:List Value}{i:Nat}{v:Value}(h:vs[i]? =some v):ah vs i=bD v:=by simp[ah,h]
theorem RG {xs:List S}{vs:List Value}(ha:au (VS r) xs vs):∀{l:List (Nat×Int)} {q:Q},VT xs l=some q->q.val=l.all λp=>decide (ah vs p.1=p.2)
 |[],q,h=>by cases h;rfl
 |p::l,q,h=>by
  have h:(ob (nth xs p.1) λx=>ob (Wy x p.2) λq=>ob (VT xs l) λr=>some (q.and r))=some q:=h
  obtain⟨x,hx,h⟩:=aj h
  obtain⟨q1,h1,h⟩:=aj h
  obtain⟨q2,h2,h⟩:=aj h
  cases h
  obtain⟨v,hv,hxv⟩:=au.nth ha hx
  rw[Q.and_val,afz,RG ha h2,a1U h1 hxv,Hu hv]
theorem Bc {x y:Option Bool}{a b c:Bool}(hx:∀c,x=some c->a=c)(hy:∀c,y=some c->b=c)(h:JI x y=some c):(a&&b)=c:=by
 cases x with
 |none=>
  obtain⟨d,hd,h⟩:=aj (show ob y (λb=>bif b then none else some false)=some c from h)
  cases d
  ·cases h;rw[hy _ hd];simp
  ·cases h
 |some d=>
  have h:(bif d then y else some false)=some c:=h
  rw[hx d rfl]
  cases d
  ·cases h;rfl
  ·rw[hy _ h];rfl
theorem tq {x:Option Bool}{a c:Bool}(hx:∀c,x=some c->a=c)(h:uo x=some c):(!a)=c:=by
 obtain⟨d,hd,h⟩:=aj h
 cases h
 rw[hx d hd]
theorem E.qZ {xs:List S}{vs:List Value}(ha:au (VS r) xs vs):∀{e:E} {b:Bool},e.abs xs=some b->e.val vs=b
 | .lt i c,b,h=>by
  obtain⟨x,hx,h⟩:=aj (show(ob (nth xs i) λx=>ob x.num λp=>ltX p.2 (.c c))=some b from h)
  obtain⟨p,hp,h⟩:=aj h
  obtain⟨v,hv,hxv⟩:=au.nth ha hx
  have:=rY hp hxv
  subst this
  rw[E.val,Hu hv,tZ h]
  rfl
 | .zero l,b,h=>by
  obtain⟨q,hq,h⟩:=aj (show ob (VT xs l) Q.told=some b from h)
  rw[E.val,<-RG ha hq,a6O h]
 | .and p q,b,h=>Bc (λ_ h=>E.qZ ha h) (λ_ h=>E.qZ ha h) (show JI (p.abs xs) (q.abs xs)=some b from h)
 | .or p q,b,h=>by
  have h:uo (JI (uo (p.abs xs)) (uo (q.abs xs)))=some b:=h
  have:=tq (λ_ h=>Bc (λ_ h=>tq (λ_ h=>E.qZ ha h) h) (λ_ h=>tq (λ_ h=>E.qZ ha h) h) h) h
  rw[<-this]
  show(p.val vs||q.val vs)=_
  cases p.val vs<;>cases q.val vs<;>rfl
 | .not p,b,h=>tq (λ_ h=>E.qZ ha h) (show uo (p.abs xs)=some b from h)
theorem a6T {k:Kd}{x:S}(h:aaU k x=true){v:Value}(hv:VS r x v):k.ok v:=by
 unfold aaU at h
 split at h
 ·exact⟨_,hv⟩
 ·exact⟨_,hv⟩
 ·simp only[aeI,af6,ag4]at h
  obtain⟨⟨rfl,h1⟩,h2⟩:=h
  exact⟨_,hv,h1,h2⟩
 ·rename_i k k' i
  cases hk:(k==k')<;>rw[hk]at h<;>simp only[aeW,aeS]at h
  ·cases h
  ·obtain rfl:k=k':=by simpa using hk
   cases hp:nth Know.iv i with
   |none=>rw[hp]at h;cases h
   |some p=>
    rw[hp]at h
    simp only[aeI,af6]at h
    have:=Base.ok.iv i p hp
    exact⟨_,hv,by omega,by omega⟩
 ·cases h
theorem PN:∀{ks:List Kd} {xs:List S},Qj ks xs=true->∀{vs:List Value},au (VS r) xs vs->au Kd.ok ks vs
 |[],[],_,[],_=>trivial
 |k::ks,x::xs,h,v::vs,ha=>by
  simp only[Qj,aeI]at h
  exact⟨a6T h.1 ha.1,PN h.2 ha.2⟩
 |[],_::_,h,_,_=>by cases h
 |_::_,[],h,_,_=>by cases h
 |[],[],_,_::_,h=>h.elim
 |_::_,_::_,_,[],h=>h.elim
def Tests (P:Program)(Q:World->Prop)(F:FuncId)(ks:List Kd)(e:E)(val:Bool->Value):Prop:=
 ∀us,au Kd.ok ks us->∀w:World,Q w->Calls P F #[.agg us.toArray] w λx w'=>x=.returned (val (e.val us))/\Below w.heap.size w w'
theorem Ic {P:Program}{Q:World->Prop}{F:FuncId}(hc:dJ P F){ks:List Kd}{e:E}{val:Bool->Value}(h:Tests P Q F ks e val)(hQ:Pm Q)(mk:Bool->V)(hmk:∀r b,VV r (mk b) (val b)):Sound P (uF F (a0L ks e mk)):=by
 refine kF hc λargs v hg r vs ha w hw=>?_
 unfold a0L at hg
 split at hg
 ·rename_i cells
  cases hf:Qj ks cells<;>rw[hf]at hg<;>simp only[aeW,aeS]at hg
  ·cases hg
  obtain⟨b,hb,hg⟩:=aj hg
  cases hg
  match vs,ha with
  |[u],⟨⟨us,hu,hus⟩,_⟩=>
   subst hu
   refine(h us (PN hf hus) w (hQ w hw)).mono λx w' ⟨h1,h2⟩=>⟨_,h1,?_,h2⟩
   rw[E.qZ hus hb]
   exact hmk r b
 ·cases hg
end
noncomputable section
def oL (e:E)(mk:Bool->V)(ks:List Kd)(L:Lf)(r:R):Bool:=Option.rec false (λb=>wZ (mk b) r) (@E.abs (L.know (fF 0 ks)) ((dD 0 ks).map L.nS) e)
end
theorem yL {v:V}{r:R}(h:wZ v r=true):∃h',r=some (v,h'):=by
 cases r with
 |none=>cases h
 |some p=>
  obtain⟨v',h'⟩:=p
  have h:V.same v' v=true:=h
  letI:Base:=Base.known Know.nought (aC.nought (λ_=>0) (λ_=>[])) 0 default
  rw[V.kG h]
  exact⟨h',rfl⟩
theorem a2C {P:Program}{F:FuncId}{ks:List Kd}{e:E}{val:Bool->Value}{nb:Nat}{w0:World}(O:Lf->aU)(mk:Bool->V)
  (hmk:∀(b0:Base) r b u,@VV b0 r (mk b) u->u=val b)
  (hO:∀(L:Lf) {rho:Nat->Int} {sig:Nat->List UInt8} (h:L.Holds rho sig) (k:Lens (fF 0 ks) rho sig) (d:Dec ks rho sig),@Sound (Base.known (L.know (fF 0 ks)) (Lf.ok h k) nb w0) P (O L))
  {sp:Sp} (hrun:((sp.leaves (Lf.start [(true,ks)])).all λL=>oL e mk ks L (O L F [.g ((dD 0 ks).map L.nS)] ⟨[],0⟩ 0))=true):
  Tests P (λw=>nb<=w.heap.size/\∀k,k<nb->w.heap[k]? =w0.heap[k]?) F ks e val:=by
 intro us hk w hw
 have hg:Gps [(true,ks)] [.agg us.toArray] us:=⟨us,[],(aft _).symm,⟨hk,.inl ⟨rfl,rfl⟩⟩,rfl⟩
 have hks:fC [(true,ks)]=ks:=by simp[fC]
 have k:=G5 hg
 have d:=a4I hg
 rw[hks]at k d
 obtain⟨L,hm,hL⟩:=sp.cover (Lf.D7 hg)
 have hp:=aeV.1 hrun L hm
 have ha':@au _ _ (@VA (Base.known (L.know (fF 0 ks)) (Lf.ok hL k) nb w0) r0) [.g (dD 0 ks)] [.agg us.toArray]:=
  @xC (Base.known (L.know (fF 0 ks)) (Lf.ok hL k) nb w0) r0 us rfl rfl [] [(true,ks)] _ [] us (by simp) hg
 have ha:=@Lf.xU (Base.known (L.know (fF 0 ks)) (Lf.ok hL k) nb w0) L r0 hL _ _ ha'
 unfold oL at hp
 cases hb:@E.abs (L.know (fF 0 ks)) ((dD 0 ks).map L.nS) e with
 |none=>rw[hb]at hp;cases hp
 |some b=>
  rw[hb]at hp
  obtain⟨h',hr⟩:=yL hp
  have ha2:=ha
  obtain⟨⟨us',e1,hus⟩,_⟩:=ha2
  have e1:Value.agg us.toArray=.agg us'.toArray:=e1
  obtain rfl:us=us':=by simpa using e1
  refine(@je (Base.known (L.know (fF 0 ks)) (Lf.ok hL k) nb w0) P w hw.1 hw.2 (O L) (hO L hL k d) F _ _ ha _ h' hr).mono λx w' ⟨u,r',e1,e2,e3⟩=>⟨?_,e3⟩
  rw[e1,hmk _ _ _ _ e2,@E.qZ (Base.known (L.know (fF 0 ks)) (Lf.ok hL k) nb w0) r0 _ _ hus _ _ hb]
structure Facts where
 sq:List (List Nat×List Nat×Bool)
 df:List (Nat×Nat×Nat)
 sx:List (List Nat×List Nat×List (Nat×Int))
 ct:List (List Nat×N×Option N×List Nat)
 sb:List (Nat×Nat×Nat)
 ad:List (Nat×Int×Nat)
@[reducible] noncomputable def Lf.aeG (L : Lf)(ss : List Nat)(f : Facts) : Know := ⟨L.iv, L.ne, L.lt, mxL ss 0 L.iv, f.sq, ss.map λi => ([256 + i], i), L.cf, f.df, f.sx, f.ct, f.sb, f.ad, x9.nought⟩
def S.one (x:S):Bool:=match x with | .bool _| .int .. | .xi .. | .xe _| .xs _| .str _=>true|_=>false
section
variable [Base]
theorem VS.RJ {r r':Ren}{x:S}(h:x.one=true){v v':Value}(k:VS r x v)(k':VS r' x v'):v=v':=by
 cases x<;>simp[S.one]at h<;>exact Eq.trans k (Eq.symm k')
theorem MC {r r':Ren}:∀{xs:List S},xs.all S.one=true->∀{us vs:List Value},au (VS r) xs us->au (VS r') xs vs->us=vs
 |[],_,[],[],_,_=>rfl
 |x::xs,h,u::us,v::vs,hu,hv=>by
  simp only[afz,aeI]at h
  rw[VS.RJ h.1 hu.1 hv.1,MC h.2 hu.2 hv.2]
 |[],_,_::_,_,h,_=>h.elim
 |[],_,_,_::_,_,h=>h.elim
 |_::_,_,[],_,h,_=>h.elim
 |_::_,_,_,[],_,h=>h.elim
end
noncomputable def FB (l:List aU):aU:=λf a h fl=>List.rec none (λo _ ih=>orR (o f a h fl) ih) l
theorem kD [Base]{P:Program}:∀{l:List aU},(∀o∈l,Sound P o)->Sound P (FB l)
 |[],_=>λ_ _ _ _ _ _ h=>by cases h
 |o::l,h=>fG (h o (afh ..)) (kD λp hp=>h p (afd _ hp))
theorem jy {a b:List Value}{i:Nat}(h:i<a.length):ah (a++b) i=ah a i:=by
 unfold ah
 rw[af5 h]
theorem rX (cs:List Value)(i:Nat):dH cs i=ah cs i:=by
 simp only[dH,Dy,aI,aeT,ah]
 cases cs[i]? <;>rfl
theorem lg {a b:List Value}{n:Nat}(h:a.length=n)(j:Nat):ah (a++b) (n+j)=ah b j:=by
 unfold ah
 rw[af7 (by omega),show n+j-a.length=j by omega]
theorem yM {us:List Value}{n m i:Nat}(h:i<m):ah ((us.drop n).take m) i=ah us (n+i):=by
 unfold ah
 rw[afQ,afm h,afR]
def SI (l:List UInt8):Value:=.string ⟨l.toArray⟩
def behind (cs:List Value)(strs:List (List UInt8))(ints:List Int):List Value:=cs++(strs.map SI++ints.map (Value.int .i64))
theorem a1x (l:List UInt8):bD (SI l)=l.length:=by simp[SI,bD,ByteArray.size]
section
variable {cs:List Value} {strs:List (List UInt8)} {ints:List Int} {n a:Nat}
theorem sV {i:Nat}(h:i<cs.length):dH (behind cs strs ints) i=ah cs i:=by
 rw[rX]
 exact jy h
theorem zM (h:cs.length=n){j:Nat}{l:List UInt8}(hl:strs[j]? =some l):dH (behind cs strs ints) (n+j)=l.length:=by
 rw[rX]
 unfold behind
 have hj:j<strs.length:=(aeU.1 hl).1
 rw[lg h,jy (by simpa using hj)]
 unfold ah
 rw[aeT,hl]
 exact a1x l
theorem jG (h:cs.length=n)(ha:strs.length=a){j:Nat}{m:Int}(hm:ints[j]? =some m):dH (behind cs strs ints) (n+a+j)=m:=by
 rw[rX]
 unfold behind
 rw[afZ,lg h,lg (by simpa using ha)]
 unfold ah
 rw[aeT,hm]
 rfl
theorem J4 (h:cs.length=n){j:Nat}{l:List UInt8}(hl:strs[j]? =some l):gu (behind cs strs ints) (n+j)=l:=by
 have hj:j<strs.length:=(aeU.1 hl).1
 simp only[gu,Iw,aI,behind]
 rw[aeT,af7 (by omega),af5 (by simp;omega),aeT,show n+j-cs.length=j by omega,hl]
 rfl
def AU (n a:Nat):List Nat:=(aie a).map (n+·)
theorem Nj {n a i:Nat}:i∈AU n a↔n<=i/\i<n+a:=by
 simp only[AU,afo,afs]
 constructor
 ·rintro⟨j,h,rfl⟩;omega
 ·rintro⟨h1,h2⟩;exact⟨i-n,by omega,by omega⟩
theorem y5 {gs:List Gp}{vs:List Value}(hg:Gps gs vs cs)(hs:fF 0 (fC gs)=[])(h:cs.length=n)(ha:strs.length=a):Lens (AU n a) (dH (behind cs strs ints)) (gu (behind cs strs ints)) where
 all i hi:=by
  by_cases hlt:i<n
  ·have e:gu (behind cs strs ints) i=gu cs i:=by
    simp only[gu,Iw,aI,behind]
    rw[afX,af5 (by rw[af4];omega)]
   rw[e]
   exact(G5 hg).all i (by rw[hs];simp)
  ·have hi:¬(n<=i/\i<n+a):=λh=>hi (Nj.2 h)
   simp only[gu,Iw,aI,behind]
   rw[aeT,af7 (by omega),af7 (by simp;omega),aeT]
   cases ints[i-cs.length-(strs.map SI).length]? with
   |none=>simp
   |some m=>exact iU m
 ss i hi:=by
  obtain⟨h1,h2⟩:=Nj.1 hi
  obtain⟨j,rfl⟩:∃j,i=n+j:=⟨i-n,by omega⟩
  have hl:strs[j]? =some (strs[j]'(by omega)):=aeK _
  rw[zM h hl,J4 h hl]
def Lf.xO (gs:List Gp)(ivS ivI:List (Int×Int)):Lf:=⟨(fC gs).map Kd.iv++(ivS++ivI),[],[],aie ((fC gs).length+(ivS.length+ivI.length)),[],[],[]⟩
theorem Lf.a0k {gs:List Gp}{vs:List Value}(hg:Gps gs vs cs){ivS ivI:List (Int×Int)}(hS:au (λp (l:List UInt8)=>p.1<=(l.length:Int)/\(l.length:Int)<=p.2) ivS strs)(hI:au (λp (m:Int)=>p.1<=m/\m<=p.2) ivI ints):
  (Lf.xO gs ivS ivI).Holds (dH (behind cs strs ints)) (gu (behind cs strs ints)) where
 iv i q e:=by
  have e:nth ((fC gs).map Kd.iv++(ivS++ivI)) i=some q:=e
  have hlen:((fC gs).map Kd.iv).length=cs.length:=by rw[af4];exact hg.kinds.len
  rw[aI]at e
  by_cases hlt:i<cs.length
  ·rw[af5 (by omega)]at e
   have h0:=(Lf.D7 hg).iv i q (by rw[aI];exact e)
   rw[sV hlt,<-rX]
   exact h0
  ·rw[af7 (by omega),hlen]at e
   obtain⟨j,rfl⟩:∃j,i=cs.length+j:=⟨i-cs.length,by omega⟩
   rw[show cs.length+j-cs.length=j by omega]at e
   by_cases hj:j<ivS.length
   ·rw[af5 hj]at e
    obtain⟨l,hl,k⟩:=au.nth hS (n:=j) (x:=q) (by rw[aI];exact e)
    rw[zM rfl hl]
    exact k
   ·rw[af7 (by omega)]at e
    obtain⟨m,hm,k⟩:=au.nth hI (n:=j-ivS.length) (x:=q) (by rw[aI];exact e)
    have hsl:=hS.len
    rw[show cs.length+j=cs.length+ivS.length+(j-ivS.length)by omega,jG rfl hsl.symm hm]
    exact k
 ne _ _ e:=by cases e
 lt _ _ e:=by cases e
 to i j e:=by
  have e:nth (aie ((fC gs).length+(ivS.length+ivI.length))) i=some j:=e
  rw[aI]at e
  obtain⟨_,e⟩:=aeU.1 e
  simp at e
  rw[e]
 st _ _ e:=by cases e
 sn _ _ e:=by cases e
 cf _ e:=by cases e
end
inductive zK (w w1:World):Value->List Value->Prop where
 |none:zK w w1 (.slice none 0 0) []
 |row {g cap:Nat} {C:Array Value} {T:TypeId} {fz:Nat×Nat} {us:List Value} (hp:us≠[]) (hg:w.heap.size<=g) (hnew:w1.heap[g]? =some (.cells C T fz)) (hfz:∀i,i<=C.size->(fz.1<=i&&i<fz.2)=false)
   (hn:us.length<=cap) (hmx:cap<=maxLen) (hcap:C.size=cap) (hus:C.toList.take us.length=us):zK w w1 (.slice (some ⟨g,0,.none⟩) us.length cap) us
noncomputable def rowAt (r:R):Option (List S):=match r with
 |some (.t [.s .uQ,.s (.int .i64 0)],_)=>some []
 |some (.t [.s (.sl l 0 n 1 none),.s (.int .i64 0)],h)=>ob (h.get l) λb=>bif b.own&&aib 0 n&&Nat.ble n b.cells.length then some (b.cells.take n)else none
 |_=>none
theorem aaQ {C:Array Value}{n:Nat}(h:n<=C.size):(C.toList.take n).length=n:=by simp;omega
theorem Ya [b:Base]{P:Program}(w:World)(hnb:Base.nb<=w.heap.size)(hg:∀k,k<Base.nb->w.heap[k]? =Base.g k){O:aU}(hO:Sound P O){f:FuncId}{args:List A}{vs:List Value}(ha:au (VA r0) args vs){cs:List S}(hr:rowAt (O f args ⟨[],0⟩ 0)=some cs):
  Calls P f vs.toArray w λe w'=>∃u us r',e=.returned (.tuple #[u,.int .i64 0])/\zK w w' u us/\au (VS r') cs us/\Below w.heap.size w w':=by
 have hi:Inv ⟨[],0⟩ r0 w.heap.size w:=
  ⟨λl h=>h.elim,aeM _,λl b h=>(by cases h),λl b h=>(by cases h),λl b h=>(by cases h),λl b l' b' h=>(by cases h),hnb,hg⟩
 have below:∀{h':Heap} {r':Ren} {w':World},Adv 0 ⟨[],0⟩ r0 w h' r' w'->Below w.heap.size w w':=λad=>⟨ad.os,ad.tape,ad.output,ad.size,λk hk=>ad.frame k hk λl c hl _ _=>(by cases hl)⟩
 unfold rowAt at hr
 split at hr
 ·rename_i h' he
  cases hr
  obtain⟨_,hc⟩:=hO _ _ _ _ _ _ he
  refine(hc r0 w.heap.size w vs hi ha).mono λe w' ⟨u,e1,r',i,e2,ad⟩=>?_
  obtain⟨ws,rfl,h2⟩:=e2
  match ws,h2 with
  |[a,c],⟨h3,h4,_⟩=>
   obtain rfl:a=.slice none 0 0:=h3
   obtain rfl:c=.int .i64 0:=h4
   exact⟨_,[],r',e1,.none,trivial,below ad⟩
 ·rename_i l n h' he
  obtain⟨blk,hb,hr⟩:=aj hr
  cases hq:(blk.own&&aib 0 n&&Nat.ble n blk.cells.length)<;>rw[hq]at hr<;>simp only[aeW,aeS]at hr
  ·cases hr
  cases hr
  simp only[aeI]at hq
  obtain⟨⟨hown,hp⟩,hle⟩:=hq
  have hp:=afM▸hp
  have hle:=aff hle
  obtain⟨_,hc⟩:=hO _ _ _ _ _ _ he
  refine(hc r0 w.heap.size w vs hi ha).mono λe w' ⟨u,e1,r',i,e2,ad⟩=>?_
  obtain⟨ws,rfl,h2⟩:=e2
  match ws,h2 with
  |[a,c],⟨h3,h4,_⟩=>
   obtain rfl:c=.int .i64 0:=h4
   obtain⟨hok,⟨_,hmx⟩,hn,rfl⟩:=h3
   obtain⟨hB,hoff,C,T,fz,hC,hsz,hfz,hat⟩:=i.hr.own l blk hb hown
   have hfresh:w.heap.size<=r'.blk l:=by
    rcases(ad.fresh l blk (afb _) hb).2 with h|⟨l0,b0,h0,_⟩
    ·exact h
    ·cases h0
   have hcap:(r'.cap l-0)/1=C.size:=by rw[hsz];simp
   rw[hcap]at hmx hn e1
   have hlen:=aaQ hn
   have hat':r'.at l 0=⟨r'.blk l,0,.none⟩:=by simp[Ren.at,hoff]
   rw[hat']at e1
   refine⟨_,C.toList.take n,r',by rw[e1],?_,?_,below ad⟩
   ·have:=zK.row (w:=w) (w1:=w') (us:=C.toList.take n) (λe=>by rw[e]at hlen;simp at hlen;omega) hfresh hC hfz (by rw[hlen];exact hn) hmx rfl (by rw[hlen])
    rw[hlen]at this
    exact this
   ·refine fZ (by rw[hlen,afu];omega) λk x v hx hv=>?_
    have hk:k<n:=by
     have:=(aeU.1 hx).1
     rw[afu]at this
     omega
    rw[afQ,afm hk]at hx hv
    obtain⟨u,hu,hxu⟩:=hat k x (by rw[aI];exact hx)
    rw[afx,hu]at hv
    cases hv
    exact hxu
 ·cases hr
noncomputable def uj [Know](F:FuncId)(cells:List S)(i:Nat)(mk:Bool->V):aU:=uF F λargs=>match args with |[.g xs]=>bif iT S.eqv cells xs then some (Option.rec .any mk (eqC i 1))else none|_=>none
def b2i (b:Bool):Int:=bif b then 1 else 0
theorem kL [Base]{P:Program}{F:FuncId}(hc:dJ P F){cells:List S}(h1:cells.all S.one=true){us:List Value}(hus:au (VS r0) cells us){i:Nat}{b:Bool}(hb:Base.rho i=b2i b){mk:Bool->V}{u:Value}(hu:∀r,VV r (mk b) u)
  (h:Pm λw=>Calls P F #[.agg us.toArray] w λe w'=>e=.returned u/\Below w.heap.size w w'):Sound P (uj F cells i mk):=by
 refine kF hc λargs v' hg r vs ha w hw=>?_
 split at hg
 ·rename_i xs
  cases hs:iT S.eqv cells xs<;>rw[hs]at hg<;>simp only[aeW,aeS]at hg
  ·cases hg
  ·cases hg
   have e:=Iz (λ_ _=>S.y9) hs
   subst e
   match vs,ha with
   |[a],⟨⟨as,ha1,ha2⟩,_⟩=>
    subst ha1
    obtain rfl:=MC h1 ha2 hus
    refine(h w hw).mono λe w' ⟨e1,e2⟩=>⟨u,e1,?_,e2⟩
    cases hcc:eqC i 1 with
    |none=>exact trivial
    |some c=>
     have hbc:c=b:=by
      rw[<-vZ hcc,hb]
      cases b<;>decide
     rw[hbc]
     exact hu r
 ·cases hg
theorem mQ (L:Lf):∀(ks:List Kd) (i:Nat),(ks.all λk=>match k with | .s=>false|_=>true)=true->((dD i ks).map L.nS).all S.one=true
 |[],_,_=>rfl
 |k::ks,i,h=>by
  simp only[afz,aeI]at h
  have ih:=mQ L ks (i+1) h.2
  show((L.nS (cellT i k)).one&&((dD (i+1) ks).map L.nS).all S.one)=true
  rw[ih,afg]
  cases k with
  |s=>exact absurd h.1 (by decide)
  |b=>
   show(S.a5G _ (@zX L.BZ ([(i,(1:Int))].map λp=>(L.rep p.1,p.2)))).one=true
   cases @zX L.BZ ([(i,(1:Int))].map λp=>(L.rep p.1,p.2))<;>rfl
  |i kd=>
   show(S.a6h kd (L.rep i) (nth L.iv (L.rep i))).one=true
   cases nth L.iv (L.rep i)with
   |none=>rfl
   |some p=>
    show S.one (bif decide (p.1=p.2)then _ else _)=true
    cases decide (p.1=p.2)<;>rfl
noncomputable def clL (L:Lf)(i:Nat)(ks:List Kd):List S:=(dD i ks).map L.nS
theorem Ai [Base]{L:Lf}(hL:L.Holds Base.rho Base.sig){full:List Value}(h1:Base.rho=dH full)(h2:Base.sig=gu full){ks:List Kd}{us pre post:List Value}{n:Nat}(e:full=pre++(us++post))(hn:pre.length=n)(hk:au Kd.ok ks us):au (VS r0) (clL L n ks) us:=by
 subst hn
 exact Lf.Gx hL (lI h1 h2 e hk)
theorem Ba (us post:List Value)(n m:Nat):us++post=us.take n++((us.drop n).take m++((us.drop n).drop m++post)):=by
 rw[<-af9 ((us.drop n).take m),agc,<-af9,agc]
section
variable {cs:List Value} {strs:List (List UInt8)} {ints:List Int} {n a:Nat}
theorem Lf.Fh {gs:List Gp}{vs:List Value}(hg:Gps gs vs cs){ivS ivI:List (Int×Int)}(hS:au (λp (l:List UInt8)=>p.1<=(l.length:Int)/\(l.length:Int)<=p.2) ivS strs){i0 i1:List Int}(hi:ints=i0++i1)(hI:au (λp (m:Int)=>p.1<=m/\m<=p.2) ivI i0):
  (Lf.xO gs ivS ivI).Holds (dH (behind cs strs ints)) (gu (behind cs strs ints)) where
 iv i q e:=by
  have e:nth ((fC gs).map Kd.iv++(ivS++ivI)) i=some q:=e
  have hlen:((fC gs).map Kd.iv).length=cs.length:=by rw[af4];exact hg.kinds.len
  rw[aI]at e
  by_cases hlt:i<cs.length
  ·rw[af5 (by omega)]at e
   have h0:=(Lf.D7 hg).iv i q (by rw[aI];exact e)
   rw[sV hlt,<-rX]
   exact h0
  ·rw[af7 (by omega),hlen]at e
   obtain⟨j,rfl⟩:∃j,i=cs.length+j:=⟨i-cs.length,by omega⟩
   rw[show cs.length+j-cs.length=j by omega]at e
   by_cases hj:j<ivS.length
   ·rw[af5 hj]at e
    obtain⟨l,hl,k⟩:=au.nth hS (n:=j) (x:=q) (by rw[aI];exact e)
    rw[zM rfl hl]
    exact k
   ·rw[af7 (by omega)]at e
    obtain⟨m,hm,k⟩:=au.nth hI (n:=j-ivS.length) (x:=q) (by rw[aI];exact e)
    have hsl:=hS.len
    have hm':ints[j-ivS.length]? =some m:=by
     rw[hi,af5 (aeU.1 hm).1]
     exact hm
    rw[show cs.length+j=cs.length+ivS.length+(j-ivS.length)by omega,jG rfl hsl.symm hm']
    exact k
 ne _ _ e:=by cases e
 lt _ _ e:=by cases e
 to i j e:=by
  have e:nth (aie ((fC gs).length+(ivS.length+ivI.length))) i=some j:=e
  rw[aI]at e
  obtain⟨_,e⟩:=aeU.1 e
  simp at e
  rw[e]
 st _ _ e:=by cases e
 sn _ _ e:=by cases e
 cf _ e:=by cases e
end
noncomputable section
section
variable [Base] {P:Program} {C:Ctx} {fl n t:Nat}
end
structure Same (b1 b2:Base)(d:Bd):Prop where
 n:∀i,i<d.n->b1.rho i=b2.rho i
 s:∀i,i<d.s->b1.sig i=b2.sig i
 l:∀i,i<d.l->b1.lst i=b2.lst i
variable {b1 b2:Base} {d:Bd}
section
variable {r:Ren} {th:Th} (ag:Same b1 b2 d) (ht:∀p∈th,∀v,@VS b1 r p.2 v->@VS b2 r p.1 v)
include ag ht
