/- Jumps. -/
import Derived.Test.YtnhnelgkcldkbaaGreatDoorFn1
set_option linter.all false
set_option maxRecDepth 100000
noncomputable section
open List renaming range → aia
namespace Go.Proofs.YtnhnelgkcldkbaaGreatDoor
namespace Am
open Go.RowKit
abbrev kJ:List Kd:=qM++.i .i64::kW
def CB (i:Nat)(c:Int):E:=.ands [.not (.lt i 0),.lt i c]
def Uu:E:=
 .or (.ands [.zero [(0,1)],.zero (zs 1 6),CB 7 24,.zero (zs 8 5)])
 (.or (.ands [.zero [(0,2)],.zero [(14,1)],.zero [(6,0)],CB 7 24,CB 8 24,.zero (zs 9 4)])
 (.or (.ands [.or (.zero [(0,3)]) (.zero [(0,5)]),.zero (zs 1 12)])
 (.ands [.zero [(0,4)],.zero (zs 1 5),CB 6 8,CB 7 24,.zero [(8,0)],.lt 9 9,.zero [(15,1)],.zero [(13,1)]])))
def aW (pre:List Value)(els:List (List Value))(post:List Value):List Value:=pre++Value.int .i64 els.length::post
def kV (pre:List Value)(els:List (List Value))(post:List Value):List Int:=
 [b2i (els.all λel=>(aY 0).val el),b2i ((aY 1).val (aW pre els post)),b2i ((dX 10).val (aW pre els post))]
def okJ (pre:List Value)(els:List (List Value))(post:List Value):Bool:=Uu.val (aW pre els post++(kV pre els post).map (Value.int .i64))
def NT (F:FuncId)(val:Bool->Value):Prop:=
 ∀(w:World) (v:Value) (pre:List Value) (sv:Value) (post:List Value) (els:List (List Value)),jd w v pre sv post els->Calls Tryz.prog F #[v] w λe w'=>e=.returned (val (okJ pre els post))/\Below w.heap.size w w'
def jB (L:Lf):List aU:=letI:=L.know []
 [uj 67 (clL L 10 kPl) 15 m8,uj 123 (clL L 10 kPl) 15 m8,uj 126 (clL L 1 kOp) 14 m8,uj 125 (clL L 1 kOp) 14 m8]
def adG (F:FuncId)(L:Lf):R:=@qR (L.know []) (oq Tryz.prog) (pJ Tryz.prog) (FB (jB L)) tbJ (NK L) 30 15 F (([.g vT]:List A).map L.nA) ⟨[],0⟩ 0
def jAt (mk:Bool->V)(F:FuncId)(L:Lf):Bool:=Option.rec false (λb=>wZ (mk b) (adG F L)) (@E.abs (L.know []) ((dD 0 kJ++[S.xi .i64 13,S.xi .i64 14,S.xi .i64 15]).map L.nS) Uu)
def L0J:Lf:=(Lf.xO [(true,kJ)] [] [(0,1),(0,1),(0,1)]).lo 9 0
theorem b01 (b:Bool):(0:Int)<=b2i b/\b2i b<=1:=by cases b<;>decide
section
variable {w:World} {v:Value} {pre:List Value} {sv:Value} {post:List Value} {els:List (List Value)} (hj:jd w v pre sv post els)
include hj
theorem ji:pre.length=9:=by have:=hj.pre.len;simp[qM]at this;omega
theorem a0C:post.length=3:=by have:=hj.post.len;simp[kW]at this;omega
theorem sW:au Kd.ok kJ (aW pre els post):=
 hj.pre.app ⟨⟨_,rfl,by show(-9223372036854775808:Int)<=_;omega,hj.ops.most⟩,hj.post⟩
theorem jS:(aW pre els post).length=13:=by have:=(sW hj).len;simp[kJ,qM,kW]at this;omega
theorem AQ:Gps [(true,kJ)] [.agg (aW pre els post).toArray] (aW pre els post):=⟨aW pre els post,[],(aft _).symm,⟨sW hj,.inl ⟨rfl,rfl⟩⟩,rfl⟩
theorem uG:ah (aW pre els post) 9=els.length:=by
 unfold ah aW
 rw[af7 (by have:=ji hj;omega),ji hj]
 rfl
theorem a4J {L:Lf}[b0:Base](hK:b0.toKnow=L.know []){full:List Value}{ints:List Value}(hf:full=aW pre els post++ints)(h1:Base.rho=dH full)(h2:Base.sig=gu full)(hL:L.Holds Base.rho Base.sig)
  (r14:Base.rho 14=b2i ((aY 1).val (aW pre els post))) (r15:Base.rho 15=b2i ((dX 10).val (aW pre els post))):Sound Tryz.prog (FB (jB L)):=by
 have hk:=sW hj
 have hlen:=jS hj
 subst hf
 have hp:au Kd.ok kPl (((aW pre els post).drop 10).take 3):=(hk.drop 10).take 3
 have ho:au Kd.ok kOp (((aW pre els post).drop 1).take 5):=(hk.drop 1).take 5
 have cp:au (VS r0) (clL L 10 kPl) (((aW pre els post).drop 10).take 3):=Ai hL h1 h2 (Ba (aW pre els post) _ 10 3) (by simp[hlen]) hp
 have co:au (VS r0) (clL L 1 kOp) (((aW pre els post).drop 1).take 5):=Ai hL h1 h2 (Ba (aW pre els post) _ 1 5) (by simp[hlen]) ho
 have e14:(aY 0).val (((aW pre els post).drop 1).take 5)=(aY 1).val (aW pre els post):=(wG (aY 0) (by decide)).trans rfl
 rw[<-e14]at r14
 rw[<-a1d]at r15
 have key:∀O∈@List.cons aU (@uj b0.toKnow 67 (clL L 10 kPl) 15 m8) [@uj b0.toKnow 123 (clL L 10 kPl) 15 m8,@uj b0.toKnow 126 (clL L 1 kOp) 14 m8,@uj b0.toKnow 125 (clL L 1 kOp) 14 m8],Sound Tryz.prog O:=by
  intro O hO
  simp only[aeQ,aeZ,afj]at hO
  rcases hO with rfl|rfl|rfl|rfl
  ·exact kL ⟨_,Tryz.func67,by kernel_rfl,by kernel_rfl⟩ (mQ L kPl 10 rfl) cp r15 (λ_=>rfl) λw _=>vG _ hp w trivial
  ·exact kL ⟨_,Tryz.func123,by kernel_rfl,by kernel_rfl⟩ (mQ L kPl 10 rfl) cp r15 (λ_=>rfl) λw _=>yH _ hp w trivial
  ·exact kL ⟨_,Tryz.func126,by kernel_rfl,by kernel_rfl⟩ (mQ L kOp 1 rfl) co r14 (λ_=>rfl) λw _=>uJ _ ho w trivial
  ·exact kL ⟨_,Tryz.func125,by kernel_rfl,by kernel_rfl⟩ (mQ L kOp 1 rfl) co r14 (λ_=>rfl) λw _=>uy _ ho w trivial
 rw[hK]at key
 exact kD key
theorem a4d {bo:Base}(hnb:bo.nb=w.heap.size)(hg:bo.g=λb=>w.heap[b]?)(hl:bo.rho 9=els.length)(hv:(bo.lst 0).v=sv)(h13:bo.rho 13=b2i (els.all λel=>(aY 0).val el)){L:Lf}(hL:L.Holds bo.rho bo.sig):
  ∀f F c,Tryz.prog.funcs[f]? =some F->F.body=some c->Loops.ok (@aO bo Tryz.prog (NK L f)) c:=by
 let cs:Nat->Int:=λi=>match els[i]? with |some el=>bif (aY 0).val el then 0 else 8|none=>0
 have hcs:∀i el,els[i]? =some el->v8 ((aY 0).val el)=.int .i64 (cs i):=λi el h=>by
  simp only[cs,h]
  cases(aY 0).val el<;>rfl
 have hs:∀i el,els[i]? =some el->Says 126 el (cs i):=λi el h w=>by rw[<-hcs i el h];exact uJ el (hj.ops.kd i el h) w trivial
 have hs':∀i el,els[i]? =some el->Says 125 el (cs i):=λi el h w=>by rw[<-hcs i el h];exact uy el (hj.ops.kd i el h) w trivial
 have hall:∀i,i<els.length->((aY 0).val ((els[i]?).getD [])=true↔cs i=0):=λi hi=>by
  simp only[cs,aeK hi,aht]
  cases(aY 0).val els[i]<;>simp
 intro f F c hF hc
 unfold NK
 cases hp:nth L.iv 13 with
 |none=>exact Loops.wJ (λc=>@aO.none bo _ c) c
 |some p=>
  have hiv:p.1<=bo.rho 13/\bo.rho 13<=p.2:=hL.iv 13 p hp
  show Loops.ok (@aO bo Tryz.prog ((bif decide (p=(1,1))then Dz else bif decide (p=(0,0))then He else E5) f)) c
  cases h1:decide (p=(1,1))with
  |true=>
   simp only[af6]at h1
   subst h1
   have hb:(els.all λel=>(aY 0).val el)=true:=by
    cases hb:(els.all λel=>(aY 0).val el)
    ·rw[h13,hb]at hiv;simp[b2i]at hiv
    ·rfl
   refine UH hj.ops hs hs' hnb hg hl hv (λi hi=>(hall i hi).1 ?_) f F c hF hc
   rw[aeK hi]
   exact aeV.1 hb _ (agl _)
  |false=>
   cases h2:decide (p=(0,0))with
   |true=>
    simp only[af6]at h2
    subst h2
    have hb:(els.all λel=>(aY 0).val el)=false:=by
     cases hb:(els.all λel=>(aY 0).val el)
     ·rfl
     ·rw[h13,hb]at hiv;simp[b2i]at hiv
    rcases Md cs els.length with h|⟨N,k1,k2,k3⟩
    ·refine absurd (aeV.2 λel hel=>?_) (by rw[hb];decide)
     obtain⟨i,hi,e⟩:=ahi hel
     have:=(hall i hi).2 (h i hi)
     rw[aeK hi,e]at this
     exact this
    ·have k8:cs N=8:=by
      simp only[cs,aeK k1]at k3 |-
      cases hh:(aY 0).val els[N]<;>rw[hh]at k3<;>simp at k3 |-
     exact YM hj.ops hs hs' hnb hg hl hv k1 k2 k8 f F c hF hc
   |false=>exact Loops.wJ (λc=>@aO.none bo _ c) c
@[reducible] def uV (_ : jd w v pre sv post els)(ints : List Int) : Base :=
 { Know.nought with nb:=w.heap.size,g:=λk=>w.heap[k]?,rho:=dH (behind (aW pre els post) [] ints),sig:=gu (behind (aW pre els post) [] ints),ok:=aC.nought _ _,lst:=λ_=>⟨sv,els⟩ }
theorem Yu (ints:List Int):au (@VA (uV hj ints) r0) [.g vT] [v]:=by
 letI:Base:=uV hj ints
 have hlenP:=ji hj
 refine⟨⟨pre++sv::post,hj.v,?_⟩,trivial⟩
 refine au.app ?_ ⟨?_,?_⟩
 ·exact lI (pre:=[]) (us:=pre) (post:=Value.int .i64 els.length::post++ints.map (Value.int .i64)) rfl rfl (by simp[behind,aW]) hj.pre
 ·obtain⟨A,c,e⟩:=hj.ops.sl
  exact⟨A,els.length,c,e,e⟩
 ·have:=lI (r:=r0) (cs:=behind (aW pre els post) [] ints) (pre:=pre++[Value.int .i64 els.length]) (us:=post) (post:=ints.map (Value.int .i64)) rfl rfl (by simp[behind,aW]) hj.post
  rw[aeL,hlenP]at this
  exact this
theorem aau (ints:List Int):(uV hj ints).rho 9=els.length:=by
 show dH _ 9=_
 rw[sV (by rw[jS hj];decide)]
 exact uG hj
theorem a3P (ints:List Int):@bQ (uV hj ints) tbJ:=by
 letI:Base:=uV hj ints
 refine⟨λl j hj'=>?_,λl i cs hj'=>(by cases hj'),λi c j hj'=>(by cases hj')⟩
 have hj':(bif Nat.beq 0 l then some 9 else none)=some j:=hj'
 cases hb:Nat.beq 0 l<;>rw[hb]at hj'<;>cases hj'
 obtain⟨A,c,e⟩:=hj.ops.sl
 exact⟨A,els.length,c,e,aau hj ints⟩
theorem YJ {ivI:List (Int×Int)}{i0 i1:List Int}(hI:au (λp (m:Int)=>p.1<=m/\m<=p.2) ivI i0):((Lf.xO [(true,kJ)] [] ivI).lo 9 0).Holds (uV hj (i0++i1)).rho (uV hj (i0++i1)).sig:=
 (Lf.Fh (AQ hj) (ivS:=[]) (strs:=[]) trivial rfl hI).lo (i:=9) (c:=0) (by
  have:=aau hj (i0++i1)
  show(0:Int)<=(uV hj (i0++i1)).rho 9
  rw[this]
  omega)
theorem abT (ints:List Int):Lens [] (uV hj ints).rho (uV hj ints).sig:=y5 (n:=13) (a:=0) (AQ hj) rfl (jS hj) rfl
theorem Yo (ints:List Int){j:Nat}{x:Int}(h:ints[j]? =some x):(uV hj ints).rho (13+j)=x:=jG (a:=0) (strs:=[]) (jS hj) rfl h
end
theorem Ij {F:FuncId}{mk:Bool->V}{val:Bool->Value}(hmk:∀(b0:Base) r b u,@VV b0 r (mk b) u->u=val b){sp:Sp}(hrun:((sp.leaves L0J).all (jAt mk F))=true):NT F val:=by
 intro w v pre sv post els hj
 obtain⟨L,hm,hL⟩:=sp.cover (YJ hj (ivI:=[(0,1),(0,1),(0,1)]) (i0:=kV pre els post) (i1:=[]) ⟨b01 _,b01 _,b01 _,trivial⟩)
 have hp:=aeV.1 hrun L hm
 let b:Base:=uV hj (kV pre els post++[])
 letI bL:Base:=b.aF (L.know []) (Lf.ok hL (abT hj _))
 have hc:au (VS r0) ((dD 0 kJ++[S.xi .i64 13,S.xi .i64 14,S.xi .i64 15]).map L.nS) (aW pre els post++(kV pre els post).map (Value.int .i64)):=by
  refine @Lf.Gx bL L r0 hL _ _ (au.app (@lI bL r0 (behind (aW pre els post) [] (kV pre els post++[])) rfl rfl kJ (aW pre els post) [] ((kV pre els post++[]).map (Value.int .i64)) rfl (sW hj)) ?_)
  refine⟨?_,?_,?_,trivial⟩
  ·exact congrArg (Value.int .i64) (Yo hj (kV pre els post++[]) (j:=0) rfl).symm
  ·exact congrArg (Value.int .i64) (Yo hj (kV pre els post++[]) (j:=1) rfl).symm
  ·exact congrArg (Value.int .i64) (Yo hj (kV pre els post++[]) (j:=2) rfl).symm
 unfold jAt at hp
 cases hb:@E.abs (L.know []) ((dD 0 kJ++[S.xi .i64 13,S.xi .i64 14,S.xi .i64 15]).map L.nS) Uu with
 |none=>rw[hb]at hp;cases hp
 |some q=>
  rw[hb]at hp
  obtain⟨h',hr⟩:=yL hp
  have hbv:q=okJ pre els post:=(@E.qZ bL _ _ _ hc _ _ hb).symm
  have hS:@Sound bL Tryz.prog (@qR (L.know []) (oq Tryz.prog) (pJ Tryz.prog) (FB (jB L)) tbJ (NK L) 30 15):=
   @yF bL _ _ (@yJ bL Tryz.prog) _ WA _ (a4J hj (L:=L) rfl (full:=behind (aW pre els post) [] (kV pre els post++[])) rfl rfl rfl hL (Yo hj _ (j:=1) rfl) (Yo hj _ (j:=2) rfl)) GV _ (bQ.aF (a3P hj _) _) _
    (a4d hj (bo:=bL) rfl rfl (aau hj _) rfl (Yo hj _ (j:=0) rfl) hL) 30 15
  refine(@je bL _ w (aeM _) (λ_ _=>rfl) _ hS _ _ _ (@Lf.xU bL L r0 hL _ _ (Yu hj _)) _ _ hr).mono λx w' ⟨u,r',e1,e2,e3⟩=>⟨?_,e3⟩
  rw[e1,hmk _ _ _ _ e2,hbv]
def acy (sel:Int->Bool)(els:List (List Value)):List Int:=els.flatMap λel=>bif sel (ah el 0)then[ah el 2]else[]
def ac4 (T:List Int):List Int:=(aia 16).map λj=>b2i (decide (((j:Nat):Int)∈T))
def abH (sel:Int->Bool)(els:List (List Value))(k:Nat):List Int:=
 (k:Int)::((k+1:Nat):Int)::ah ((els[k]?).getD []) 0::ah ((els[k]?).getD []) 1::ah ((els[k]?).getD []) 2::ah ((els[k]?).getD []) 3::ah ((els[k]?).getD []) 4::ac4 (acy sel (els.take k))
def xk (L:Lf)(i:Nat)(c:Int):Lf:=(L.hi i c).lo i c
section
variable {w:World} {v:Value} {pre:List Value} {sv:Value} {post:List Value} {els:List (List Value)} (hj:jd w v pre sv post els) (sel:Int->Bool)
@[reducible] def aeH (k : Nat) : Base := uV hj (abH sel els k)
end
end Am
open Go.RowKit Am
namespace Am
def S.vW (x:S):Bool:=match x with | .rv _=>true|x=>x.one
def A.eqb (x y:A):Bool:=match x,y with | .s x,.s y=>x.eqb y| .g l,.g m=>iT S.eqb l m|_,_=>false
theorem A.ug {x y:A}(h:x.eqb y=true):x=y:=by
 unfold A.eqb at h
 split at h
 ·rw[S.ug h]
 ·rw[VP (λ_ _=>S.ug) h]
 ·cases h
def nJ (F:FuncId)(xs0:List A)(v:V):aU:=uF F λargs=>bif iT A.eqb xs0 args then some v else none
section
variable [Base]
theorem VS.oG {r r':Ren}{x:S}(h:x.vW=true){v v':Value}(k:VS r x v)(k':VS r' x v'):v=v':=by
 by_cases hx:∃j,x=.rv j
 ·obtain⟨j,rfl⟩:=hx
  obtain⟨A,n,c,e1,e2⟩:=k
  obtain⟨A',n',c',e3,e4⟩:=k'
  rw[e2,e4,<-e1,e3]
 ·have h1:x.one=true:=by
   cases x<;>first |exact h|exact absurd ⟨_,rfl⟩ hx
  exact VS.RJ h1 k k'
theorem IC {r r':Ren}:∀{xs:List S},xs.all S.vW=true->∀{us vs:List Value},au (VS r) xs us->au (VS r') xs vs->us=vs
 |[],_,[],[],_,_=>rfl
 |x::xs,h,u::us,v::vs,hu,hv=>by
  simp only[afz,aeI]at h
  rw[VS.oG h.1 hu.1 hv.1,IC h.2 hu.2 hv.2]
 |[],_,[],_::_,_,h=>h.elim
 |[],_,_::_,_,h,_=>h.elim
 |_::_,_,[],_,h,_=>h.elim
 |_::_,_,_::_,[],_,h=>h.elim
def A.vW (x:A):Bool:=x.cells.all S.vW
theorem A.oG {r r':Ren}{x:A}(h:x.vW=true){v v':Value}(k:VA r x v)(k':VA r' x v'):v=v':=by
 cases x with
 |s x=>exact VS.oG (by have h:([x].all S.vW)=true:=h;simpa using h) k k'
 |g l=>
  obtain⟨us,rfl,h1⟩:=k
  obtain⟨vs,rfl,h2⟩:=k'
  rw[IC h h1 h2]
theorem As.oG {r r':Ren}:∀{xs:List A},xs.all A.vW=true->∀{us vs:List Value},au (VA r) xs us->au (VA r') xs vs->us=vs
 |[],_,[],[],_,_=>rfl
 |x::xs,h,u::us,v::vs,hu,hv=>by
  simp only[afz,aeI]at h
  rw[A.oG h.1 hu.1 hv.1,As.oG h.2 hu.2 hv.2]
 |[],_,[],_::_,_,h=>h.elim
 |[],_,_::_,_,h,_=>h.elim
 |_::_,_,[],_,h,_=>h.elim
 |_::_,_,_::_,[],_,h=>h.elim
theorem fM {P:Program}{F:FuncId}(hc:dJ P F){xs0:List A}{v:V}(h1:xs0.all A.vW=true){us:List Value}(hus:au (VA r0) xs0 us){u:Value}(hu:∀r,VV r v u)
  (h:Pm λw=>Calls P F us.toArray w λe w'=>e=.returned u/\Below w.heap.size w w'):Sound P (nJ F xs0 v):=by
 refine kF hc λargs v' hg r vs ha w hw=>?_
 cases hs:iT A.eqb xs0 args<;>rw[hs]at hg<;>simp only[aeW,aeS]at hg
 ·cases hg
 ·cases hg
  have e:=VP (λ_ _=>A.ug) hs
  subst e
  obtain rfl:=As.oG h1 ha hus
  exact(h w hw).mono λe w' ⟨e1,e2⟩=>⟨u,e1,hu r,e2⟩
end
end Am
namespace enc
structure PlV where
 l:Int
 d:Bool
 f:Int
def PlV.c (p:PlV):List Value:=[.int .i64 p.l,.bool p.d,.int .u8 p.f]
structure PlV.ok (p:PlV):Prop where
 l0:0<=p.l
 l1:p.l<=15
 f0:0<=p.f
 f1:p.f<=2
inductive OpV where
 |k (n:Int)
 |p (m:Bool) (q:PlV)
def kdM (m:Bool):Int:=if m then 3 else 2
def OpV.c:OpV->List Value
 | .k n=>[.int .u8 1,.int .i64 n,.int .i64 0,.bool false,.int .u8 0]
 | .p m q=>[.int .u8 (kdM m),.int .i64 0,.int .i64 q.l,.bool q.d,.int .u8 q.f]
def OpV.ok:OpV->Prop
 | .k n=>-9223372036854775808<=n/\n<=9223372036854775807
 | .p _ q=>q.ok
def zO:List Value:=[.int .u8 0,.int .i64 0,.int .i64 0,.bool false,.int .u8 0]
def zP:List Value:=[.int .i64 0,.bool false,.int .u8 0]
inductive RvV where
 |use (a:OpV)
 |bin (o:Int) (a b:OpV)
 |two (a b:OpV)
 |ref (o:Int) (q:PlV)
 |raw (q:PlV)
def RvV.c:RvV->List Value
 | .use a=>.int .u8 1::.int .u8 0::.int .u8 0::(a.c++(zO++zP))
 | .bin o a b=>.int .u8 2::.int .u8 o::.int .u8 0::(a.c++(b.c++zP))
 | .two a b=>.int .u8 3::.int .u8 0::.int .u8 0::(a.c++(b.c++zP))
 | .ref o q=>.int .u8 4::.int .u8 0::.int .u8 o::(zO++(zO++q.c))
 | .raw q=>.int .u8 5::.int .u8 0::.int .u8 0::(zO++(zO++q.c))
def RvV.ok:RvV->Prop
 | .use a=>a.ok
 | .bin o a b=>1<=o/\o<=6/\a.ok/\b.ok
 | .two a b=>a.ok/\b.ok
 | .ref o q=>1<=o/\o<=3/\q.ok
 | .raw q=>q.ok
def zR:List Value:=.int .u8 0::.int .u8 0::.int .u8 0::(zO++(zO++zP))
inductive StV where
 |asg (q:PlV) (r:RvV)
 |one (m:Bool) (a:OpV)
 |fresh (l:Int)
def kdO (m:Bool):Int:=if m then 4 else 2
def StV.c:StV->List Value
 | .asg q r=>.int .u8 1::(q.c++(r.c++(zO++[.int .i64 0])))
 | .one m a=>.int .u8 (kdO m)::(zP++(zR++(a.c++[.int .i64 0])))
 | .fresh l=>.int .u8 3::(zP++(zR++(zO++[.int .i64 l])))
def StV.ok:StV->Prop
 | .asg q r=>q.ok/\r.ok
 | .one _ a=>a.ok
 | .fresh l=>0<=l/\l<=15
inductive JmV where
 |go (n:Int)
 |br (a:OpV) (n e:Int)
 |ret
 |abort
 |call (f:Int) (q:PlV) (n:Int)
def JmV.pre:JmV->List Value
 | .go n=>.int .u8 1::(zO++[.int .i64 0,.int .i64 n,.int .i64 0])
 | .br a n e=>.int .u8 2::(a.c++[.int .i64 0,.int .i64 n,.int .i64 e])
 | .ret=>.int .u8 3::(zO++[.int .i64 0,.int .i64 0,.int .i64 0])
 | .abort=>.int .u8 5::(zO++[.int .i64 0,.int .i64 0,.int .i64 0])
 | .call f q n=>.int .u8 4::(zO++[.int .i64 f,.int .i64 n,.int .i64 0])
def JmV.post:JmV->List Value
 | .call f q n=>q.c
 |_=>zP
def JmV.ok (ops:List OpV):JmV->Prop
 | .go n=>(0<=n/\n<=23)/\ops=[]
 | .br a n e=>(0<=n/\n<=23)/\(0<=e/\e<=23)/\a.ok/\ops=[]
 | .ret=>ops=[]
 | .abort=>ops=[]
 | .call f q n=>(0<=f/\f<=7)/\(0<=n/\n<=23)/\q.ok/\ops.length<=8/\∀a∈ops,a.ok
theorem bZ {n:Nat}{us:List Value}(h:us.length=n+1):∃x r,us=x::r/\r.length=n:=by
 cases us with
 |nil=>simp at h
 |cons x r=>exact⟨x,r,rfl,by simpa using h⟩
theorem kZ {k n l f:Int}{d:Bool}(n0:-9223372036854775808<=n)(n1:n<=9223372036854775807)(f0:0<=f)(h:(k=1/\l=0/\d=false/\f=0)\/((k=2\/k=3)/\n=0/\0<=l/\l<16/\f<3)):∃a:OpV,a.ok/\[Value.int .u8 k,.int .i64 n,.int .i64 l,.bool d,.int .u8 f]=a.c:=by
 rcases h with⟨rfl,rfl,rfl,rfl⟩|⟨rfl|rfl,rfl,h0,h1,h2⟩
 ·exact⟨.k n,⟨n0,n1⟩,rfl⟩
 ·exact⟨.p false ⟨l,d,f⟩,⟨h0,show l<=15 by omega,f0,show f<=2 by omega⟩,rfl⟩
 ·exact⟨.p true ⟨l,d,f⟩,⟨h0,show l<=15 by omega,f0,show f<=2 by omega⟩,rfl⟩
theorem a5r {us:List Value}(hk:au Kd.ok opK us)(hv:(aY 0).val us=true):∃a:OpV,a.ok/\us=a.c:=by
 have hl:=hk.len.symm
 obtain⟨c0,r0,rfl,hl0⟩:=bZ hl
 obtain⟨c1,r1,rfl,hl1⟩:=bZ hl0
 obtain⟨c2,r2,rfl,hl2⟩:=bZ hl1
 obtain⟨c3,r3,rfl,hl3⟩:=bZ hl2
 obtain⟨c4,r4,rfl,hl4⟩:=bZ hl3
 obtain rfl:=afA hl4
 obtain⟨g0,g1,g2,g3,g4,_⟩:=hk
 obtain⟨k,rfl,k0,k1⟩:=g0
 obtain⟨n,rfl,n0,n1⟩:=g1
 obtain⟨l,rfl,l0,l1⟩:=g2
 obtain⟨d,rfl⟩:=g3
 obtain⟨f,rfl,f0,f1⟩:=g4
 simp[aY,dX,zs,aia,aia.loop,E.ands,E.val,ah,bD]at hv
 exact kZ n0 n1 f0 hv
theorem eq2 {α β γ:Type}(f:α->β->γ){a b:α}{c d:β}(h:a=b)(k:c=d):f a c=f b d:=by rw[h,k]
theorem a7T {us:List Value}(hk:au Kd.ok zk us)(hv:dK.val us=true):∃s:StV,s.ok/\us=s.c:=by
 have hl:=hk.len.symm
 obtain⟨c0,r0,rfl,hl0⟩:=bZ hl
 obtain⟨c1,r1,rfl,hl1⟩:=bZ hl0
 obtain⟨c2,r2,rfl,hl2⟩:=bZ hl1
 obtain⟨c3,r3,rfl,hl3⟩:=bZ hl2
 obtain⟨c4,r4,rfl,hl4⟩:=bZ hl3
 obtain⟨c5,r5,rfl,hl5⟩:=bZ hl4
 obtain⟨c6,r6,rfl,hl6⟩:=bZ hl5
 obtain⟨c7,r7,rfl,hl7⟩:=bZ hl6
 obtain⟨c8,r8,rfl,hl8⟩:=bZ hl7
 obtain⟨c9,r9,rfl,hl9⟩:=bZ hl8
 obtain⟨c10,r10,rfl,hl10⟩:=bZ hl9
 obtain⟨c11,r11,rfl,hl11⟩:=bZ hl10
 obtain⟨c12,r12,rfl,hl12⟩:=bZ hl11
 obtain⟨c13,r13,rfl,hl13⟩:=bZ hl12
 obtain⟨c14,r14,rfl,hl14⟩:=bZ hl13
 obtain⟨c15,r15,rfl,hl15⟩:=bZ hl14
 obtain⟨c16,r16,rfl,hl16⟩:=bZ hl15
 obtain⟨c17,r17,rfl,hl17⟩:=bZ hl16
 obtain⟨c18,r18,rfl,hl18⟩:=bZ hl17
 obtain⟨c19,r19,rfl,hl19⟩:=bZ hl18
 obtain⟨c20,r20,rfl,hl20⟩:=bZ hl19
 obtain⟨c21,r21,rfl,hl21⟩:=bZ hl20
 obtain⟨c22,r22,rfl,hl22⟩:=bZ hl21
 obtain⟨c23,r23,rfl,hl23⟩:=bZ hl22
 obtain⟨c24,r24,rfl,hl24⟩:=bZ hl23
 obtain⟨c25,r25,rfl,hl25⟩:=bZ hl24
 obtain rfl:=afA hl25
 obtain⟨g0,g1,g2,g3,g4,g5,g6,g7,g8,g9,g10,g11,g12,g13,g14,g15,g16,g17,g18,g19,g20,g21,g22,g23,g24,g25,_⟩:=hk
 obtain⟨k,rfl,k0,k1⟩:=g0
 obtain⟨l,rfl,l0,l1⟩:=g1
 obtain⟨d,rfl⟩:=g2
 obtain⟨f,rfl,f0,f1⟩:=g3
 obtain⟨rk,rfl,rk0,rk1⟩:=g4
 obtain⟨ro,rfl,ro0,ro1⟩:=g5
 obtain⟨rb,rfl,rb0,rb1⟩:=g6
 obtain⟨ak,rfl,ak0,ak1⟩:=g7
 obtain⟨an,rfl,an0,an1⟩:=g8
 obtain⟨al,rfl,al0,al1⟩:=g9
 obtain⟨ad,rfl⟩:=g10
 obtain⟨af,rfl,af0,af1⟩:=g11
 obtain⟨bk,rfl,bk0,bk1⟩:=g12
 obtain⟨bn,rfl,bn0,bn1⟩:=g13
 obtain⟨bl,rfl,bl0,bl1⟩:=g14
 obtain⟨bd,rfl⟩:=g15
 obtain⟨bf,rfl,bf0,bf1⟩:=g16
 obtain⟨pl,rfl,pl0,pl1⟩:=g17
 obtain⟨pd,rfl⟩:=g18
 obtain⟨pf,rfl,pf0,pf1⟩:=g19
 obtain⟨ok,rfl,ok0,ok1⟩:=g20
 obtain⟨on,rfl,on0,on1⟩:=g21
 obtain⟨ol,rfl,ol0,ol1⟩:=g22
 obtain⟨od,rfl⟩:=g23
 obtain⟨of,rfl,of0,of1⟩:=g24
 obtain⟨lo,rfl,lo0,lo1⟩:=g25
 simp[dK,qC,aY,dX,zs,aia,aia.loop,E.ands,E.val,ah,bD]at hv
 clear hl hl0 hl1 hl2 hl3 hl4 hl5 hl6 hl7 hl8 hl9 hl10 hl11 hl12 hl13 hl14 hl15 hl16 hl17 hl18 hl19 hl20 hl21 hl22 hl23 hl24 hl25
 rcases hv with⟨rfl,⟨p0,p1,p2⟩,hr,⟨rfl,rfl,rfl,rfl,rfl⟩,rfl⟩|⟨hk,⟨rfl,rfl,rfl⟩,⟨rfl,rfl,rfl,rfl,rfl,rfl,rfl,rfl,rfl,rfl,rfl,rfl,rfl,rfl,rfl,rfl⟩,ho,rfl⟩|⟨rfl,⟨rfl,rfl,rfl⟩,⟨rfl,rfl,rfl,rfl,rfl,rfl,rfl,rfl,rfl,rfl,rfl,rfl,rfl,rfl,rfl,rfl⟩,⟨rfl,rfl,rfl,rfl,rfl⟩,h0,h1⟩
 ·have hp:(PlV.mk l d f).ok:=⟨p0,show l<=15 by omega,f0,show f<=2 by omega⟩
  rcases hr with⟨rfl,ha,⟨rfl,rfl,rfl,rfl,rfl⟩,⟨rfl,rfl,rfl⟩,rfl,rfl⟩|⟨rfl,ha,hb,⟨rfl,rfl,rfl⟩,h1,h2,rfl⟩|⟨rfl,ha,hb,⟨rfl,rfl,rfl⟩,rfl,rfl⟩|⟨rfl,⟨rfl,rfl,rfl,rfl,rfl⟩,⟨rfl,rfl,rfl,rfl,rfl⟩,⟨h1,h2,h3⟩,rfl,h4,h5⟩|⟨rfl,⟨rfl,rfl,rfl,rfl,rfl⟩,⟨rfl,rfl,rfl,rfl,rfl⟩,⟨h1,h2,h3⟩,rfl,rfl⟩
  ·obtain⟨a,ka,ea⟩:=kZ an0 an1 af0 ha
   exact⟨.asg ⟨l,d,f⟩ (.use a),⟨hp,ka⟩,congrArg (λx=>Value.int .u8 1::(PlV.c ⟨l,d,f⟩++((.int .u8 1::.int .u8 0::.int .u8 0::(x++(zO++zP)))++(zO++[.int .i64 0])))) ea⟩
  ·obtain⟨a,ka,ea⟩:=kZ an0 an1 af0 ha
   obtain⟨b,kb,eb⟩:=kZ bn0 bn1 bf0 hb
   exact⟨.asg ⟨l,d,f⟩ (.bin ro a b),⟨hp,h1,by omega,ka,kb⟩,eq2 (λx y=>Value.int .u8 1::(PlV.c ⟨l,d,f⟩++((.int .u8 2::.int .u8 ro::.int .u8 0::(x++(y++zP)))++(zO++[.int .i64 0])))) ea eb⟩
  ·obtain⟨a,ka,ea⟩:=kZ an0 an1 af0 ha
   obtain⟨b,kb,eb⟩:=kZ bn0 bn1 bf0 hb
   exact⟨.asg ⟨l,d,f⟩ (.two a b),⟨hp,ka,kb⟩,eq2 (λx y=>Value.int .u8 1::(PlV.c ⟨l,d,f⟩++((.int .u8 3::.int .u8 0::.int .u8 0::(x++(y++zP)))++(zO++[.int .i64 0])))) ea eb⟩
  ·exact⟨.asg ⟨l,d,f⟩ (.ref rb ⟨pl,pd,pf⟩),⟨hp,h4,by omega,h1,show pl<=15 by omega,pf0,show pf<=2 by omega⟩,rfl⟩
  ·exact⟨.asg ⟨l,d,f⟩ (.raw ⟨pl,pd,pf⟩),⟨hp,h1,show pl<=15 by omega,pf0,show pf<=2 by omega⟩,rfl⟩
 ·obtain⟨a,ka,ea⟩:=kZ on0 on1 of0 ho
  rcases hk with rfl|rfl
  ·exact⟨.one false a,ka,congrArg (λx=>Value.int .u8 2::(zP++(zR++(x++[.int .i64 0])))) ea⟩
  ·exact⟨.one true a,ka,congrArg (λx=>Value.int .u8 4::(zP++(zR++(x++[.int .i64 0])))) ea⟩
 ·exact⟨.fresh lo,⟨h0,by omega⟩,rfl⟩
theorem QG:∀{els:List (List Value)},(∀o∈els,au Kd.ok opK o)->(els.all λel=>(aY 0).val el)=true->∃l:List OpV,(∀a∈l,a.ok)/\els=l.map OpV.c
 |[],_,_=>⟨[],λa ha=>absurd ha aeZ,rfl⟩
 |o::els,hk,hv=>by
  rw[afz,aeI]at hv
  obtain⟨a,ha,ea⟩:=a5r (hk o afh) hv.1
  obtain⟨l,hl,el⟩:=QG (λx hx=>hk x (afd _ hx)) hv.2
  refine⟨a::l,λx hx=>?_,by rw[ea,el];rfl⟩
  rcases aeQ.1 hx with rfl|hx
  ·exact ha
  ·exact hl x hx
theorem a19 {b:Bool}(h:b2i b=1):b=true:=by cases b<;>first |rfl|(exfalso;revert h;decide)
theorem VE {pre:List Value}{els:List (List Value)}{post:List Value}(hk:au Kd.ok qM pre)(hq:au Kd.ok kW post)(he:∀o∈els,au Kd.ok opK o)(hv:okJ pre els post=true):∃(j:JmV) (ops:List OpV),j.ok ops/\pre=j.pre/\post=j.post/\els=ops.map OpV.c:=by
 have hla:=hk.len.symm
 obtain⟨ca0,ra0,rfl,hla0⟩:=bZ hla
 obtain⟨ca1,ra1,rfl,hla1⟩:=bZ hla0
 obtain⟨ca2,ra2,rfl,hla2⟩:=bZ hla1
 obtain⟨ca3,ra3,rfl,hla3⟩:=bZ hla2
 obtain⟨ca4,ra4,rfl,hla4⟩:=bZ hla3
 obtain⟨ca5,ra5,rfl,hla5⟩:=bZ hla4
 obtain⟨ca6,ra6,rfl,hla6⟩:=bZ hla5
 obtain⟨ca7,ra7,rfl,hla7⟩:=bZ hla6
 obtain⟨ca8,ra8,rfl,hla8⟩:=bZ hla7
 obtain rfl:=afA hla8
 obtain⟨ga0,ga1,ga2,ga3,ga4,ga5,ga6,ga7,ga8,_⟩:=hk
 obtain⟨k,rfl,k0,k1⟩:=ga0
 obtain⟨ak,rfl,ak0,ak1⟩:=ga1
 obtain⟨an,rfl,an0,an1⟩:=ga2
 obtain⟨al,rfl,al0,al1⟩:=ga3
 obtain⟨ad,rfl⟩:=ga4
 obtain⟨af,rfl,af0,af1⟩:=ga5
 obtain⟨fu,rfl,fu0,fu1⟩:=ga6
 obtain⟨ne,rfl,ne0,ne1⟩:=ga7
 obtain⟨el,rfl,el0,el1⟩:=ga8
 clear hla hla0 hla1 hla2 hla3 hla4 hla5 hla6 hla7 hla8
 have hlb:=hq.len.symm
 obtain⟨cb0,rb0,rfl,hlb0⟩:=bZ hlb
 obtain⟨cb1,rb1,rfl,hlb1⟩:=bZ hlb0
 obtain⟨cb2,rb2,rfl,hlb2⟩:=bZ hlb1
 obtain rfl:=afA hlb2
 obtain⟨gb0,gb1,gb2,_⟩:=hq
 obtain⟨l,rfl,l0,l1⟩:=gb0
 obtain⟨d,rfl⟩:=gb1
 obtain⟨f,rfl,f0,f1⟩:=gb2
 clear hlb hlb0 hlb1 hlb2
 have f0:(0:Int)<=f:=f0
 have af0:(0:Int)<=af:=af0
 unfold okJ kV at hv
 generalize hA:b2i (els.all λel=>(aY 0).val el)=A at hv
 generalize hO:b2i ((aY 1).val (aW _ els _))=O at hv
 generalize hP:b2i ((dX 10).val (aW _ els _))=Q at hv
 simp[Uu,CB,aW,zs,aia,aia.loop,E.ands,E.val,ah,bD]at hv
 rcases hv with⟨rfl,⟨rfl,rfl,rfl,rfl,rfl,rfl⟩,⟨h0,h1⟩,rfl,rfl,rfl,rfl,rfl⟩|⟨rfl,rfl,rfl,⟨h0,h1⟩,⟨h2,h3⟩,rfl,rfl,rfl,rfl⟩|⟨hk,rfl,rfl,rfl,rfl,rfl,rfl,rfl,rfl,rfl,rfl,rfl,rfl⟩|⟨rfl,⟨rfl,rfl,rfl,rfl,rfl⟩,⟨h0,h1⟩,⟨h2,h3⟩,rfl,h4,rfl,rfl⟩
 ·exact⟨.go ne,[],⟨⟨h0,by omega⟩,rfl⟩,rfl,rfl,rfl⟩
 ·have hv:=a19 hO
  simp[aY,dX,aW,zs,aia,aia.loop,E.ands,E.val,ah,bD]at hv
  obtain⟨a,ka,ea⟩:=kZ an0 an1 af0 hv
  exact⟨.br a ne el,[],⟨⟨h0,by omega⟩,⟨h2,by omega⟩,ka,rfl⟩,congrArg (λx=>Value.int .u8 2::(x++[.int .i64 0,.int .i64 ne,.int .i64 el])) ea,rfl,rfl⟩
 ·rcases hk with rfl|rfl
  ·exact⟨.ret,[],rfl,rfl,rfl,rfl⟩
  ·exact⟨.abort,[],rfl,rfl,rfl,rfl⟩
 ·have hv:=a19 hP
  simp[dX,aW,E.ands,E.val,ah,bD]at hv
  obtain⟨ops,ho,eo⟩:=QG he (a19 hA)
  have hn:ops.length<=8:=by rw[eo,af4]at h4;omega
  exact⟨.call fu ⟨l,d,f⟩ ne,ops,⟨⟨h0,by omega⟩,⟨h2,by omega⟩,⟨show 0<=l by omega,show l<=15 by omega,f0,show f<=2 by omega⟩,hn,ho⟩,rfl,rfl,eo⟩
