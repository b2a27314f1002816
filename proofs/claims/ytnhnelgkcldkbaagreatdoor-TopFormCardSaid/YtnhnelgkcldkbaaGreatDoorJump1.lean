/- One operand. -/
import Derived.Test.YtnhnelgkcldkbaaGreatDoorTests5
import Derived.Deep.Fields
set_option linter.all false
set_option maxRecDepth 100000
noncomputable section
open Nat renaming beq → aia
namespace Go.Proofs.YtnhnelgkcldkbaaGreatDoor
namespace Am
open Go.RowKit
def opK:List Kd:=[.i .u8,.i .i64,.i .i64,.b,.i .u8]
def Says (F:FuncId)(us:List Value)(n:Int):Prop:=∀w:World,Calls Tryz.prog F #[.agg us.toArray] w λe w'=>e=.returned (.int .i64 n)/\Below w.heap.size w w'
structure Ops (w:World)(v:Value)(els:List (List Value)):Prop where
 sl:∃A c,v=.slice A els.length c
 most:(els.length:Int)<=9223372036854775807
 at_:∀(i:Nat) (el:List Value),els[i]? =some el->∃b off c,v=.slice (some ⟨b,off,none⟩) els.length c/\∀f u,el[f]? =some u->w.cell? ⟨b,off+i*5+f,none⟩=some u
 kd:∀(i:Nat) (el:List Value),els[i]? =some el->au Kd.ok opK el
 cap:els≠[]->∀A n c,v=.slice A n c->n<=c/\c<=maxLen
theorem aN {α β:Type}{R:α->β->Prop}{k:α}{ks:List α}{l:List β}(h:au R (k::ks) l):∃a t,l=a::t/\R k a/\au R ks t:=by
 cases l with
 |nil=>exact h.elim
 |cons a t=>exact⟨a,t,rfl,h.1,h.2⟩
theorem jY {α β:Type}{R:α->β->Prop}{l:List β}(h:au R [] l):l=[]:=by
 cases l with
 |nil=>rfl
 |cons a t=>exact h.elim
theorem BD {el:List Value}(h:au Kd.ok opK el):∃a b c d e,el=[.int .u8 a,.int .i64 b,.int .i64 c,.bool d,.int .u8 e]:=by
 obtain⟨v0,l0,e0,⟨a,ea,_⟩,h0⟩:=aN h
 obtain⟨v1,l1,e1,⟨b,eb,_⟩,h1⟩:=aN h0
 obtain⟨v2,l2,e2,⟨c,ec,_⟩,h2⟩:=aN h1
 obtain⟨v3,l3,e3,⟨d,ed⟩,h3⟩:=aN h2
 obtain⟨v4,l4,e4,⟨e,ee,_⟩,h4⟩:=aN h3
 have e5:=jY h4
 exact⟨a,b,c,d,e,by rw[e0,e1,e2,e3,e4,e5,ea,eb,ec,ed,ee]⟩
theorem Inv.conv {b1 b2:Base}(hv:@VS b1=@VS b2)(hn:b1.nb=b2.nb)(hg:b1.g=b2.g){h:Heap}{r:Ren}{B:Nat}{w:World}(i:@Inv b1 h r B w):@Inv b2 h r B w:=by
 obtain⟨n,bb,⟨dom,own,ro,inj,nb,z⟩⟩:=i
 rw[hv]at own ro
 exact @Inv.mk b2 _ _ _ _ n bb (@HR.mk b2 _ _ _ _ dom own ro inj (by show b2.nb<=B;rw[<-hn];exact nb) (λc hc=>by
  have hc:c<b2.nb:=hc
  show w.heap[c]? =b2.g c
  rw[<-hg]
  exact z c (by show c<b1.nb;rw[hn];exact hc)))
theorem Sound.aF {P:Program}{b:Base}{O:aU}(h:@Sound b P O){K:Know}(ok:aC K b.rho b.sig):@Sound (b.aF K ok) P O:=by
 intro f args hp fl v h' e
 obtain⟨hc,hk⟩:=h f args hp fl v h' e
 refine⟨hc,λr B w vs hi ha=>(hk r B w vs (Inv.conv (b1:=b.aF K ok) (b2:=b) rfl rfl rfl hi) ha).mono λe w' ⟨u,e1,r',i,e2,ad⟩=>⟨u,e1,r',Inv.conv (b1:=b) (b2:=b.aF K ok) rfl rfl rfl i,e2,ad⟩⟩
theorem bQ.aF {b:Base}{T:Tabs}(h:@bQ b T){K:Know}(ok:aC K b.rho b.sig):@bQ (b.aF K ok) T:=by
 obtain⟨h1,h2,h3⟩:=h
 exact @bQ.mk (b.aF K ok) T h1 h2 h3
def adt (els:List (List Value))(k:Nat):List Int:=(els.length:Int)::(k:Int)::((k+1:Nat):Int)::((els[k]?).getD []).map bD
@[reducible] def fK (w0 : World)(v : Value)(els : List (List Value))(k : Nat) : Base :=
 { Know.nought with nb:=w0.heap.size,g:=λb=>w0.heap[b]?,rho:=Dy (adt els k),sig:=λ_=>[],ok:=aC.nought _ _,lst:=λ_=>⟨v,els⟩ }
def opC:List S:=[.xi .u8 3,.xi .i64 4,.xi .i64 5,.xe [(6,1)],.xi .u8 7]
def tbO:Tabs:=⟨[(0,0)],[(0,.x 1,opC)],[(1,1,2)]⟩
def tbL:Tabs:=⟨[(0,0)],[],[]⟩
def Ad (F:FuncId)(n:Int):aU:=uF F λargs=>match args with |[.g cs]=>bif iT S.eqb opC cs then some (.a (.s (.int .i64 n)))else none|_=>none
def DC (T:Tabs)(O:aU):Ctx:=⟨oq Tryz.prog,O,T,λ_ _ _=>none⟩
def O7:aU:=λ_ _ _ _=>none
def L1:Lf:=⟨[],[],[(1,0)],[],[],[],[]⟩
def L2:Lf:=⟨[],[],[],[],[],[],[]⟩
theorem VP {α:Type}{f:α->α->Bool}(hf:∀x y,f x y=true->x=y):∀{l m:List α},iT f l m=true->l=m
 |[],[],_=>rfl
 |a::l,b::m,h=>by
  simp only[iT,aeI]at h
  rw[hf a b h.1,VP hf h.2]
 |[],_::_,h=>by cases h
 |_::_,[],h=>by cases h
section
variable {w0:World} {v:Value} {els:List (List Value)}
theorem abR {k i:Nat}:(fK w0 v els k).rho (i+3)=Dy (((els[k]?).getD []).map bD) i:=rfl
theorem Bo {k:Nat}{el:List Value}(he:els[k]? =some el)(hk:au Kd.ok opK el){F:FuncId}(hF:dJ Tryz.prog F){n:Int}(h:Says F el n):@Sound (fK w0 v els k) Tryz.prog (Ad F n):=by
 letI:Base:=fK w0 v els k
 refine kF hF λargs u hg r vs ha w _=>?_
 split at hg
 ·rename_i cs
  cases hc:iT S.eqb opC cs<;>rw[hc]at hg<;>cases hg
  obtain rfl:=VP (λ_ _=>S.ug) hc
  match vs,ha with
  |[a],⟨⟨us,h1,h2⟩,_⟩=>
   subst h1
   have e:us=el:=by
    obtain⟨a,b,c,d,e,rfl⟩:=BD hk
    have hr:∀i x,([Value.int .u8 a,.int .i64 b,.int .i64 c,.bool d,.int .u8 e].map bD)[i]? =some x->(fK w0 v els k).rho (i+3)=x:=λi x hx=>by
     rw[abR,he]
     simp only[Dy,aht,aI,hx]
    have r0:=hr 0 _ rfl
    have r1:=hr 1 _ rfl
    have r2:=hr 2 _ rfl
    have r3:=hr 3 _ rfl
    have r4:=hr 4 _ rfl
    match us,h2 with
    |[u0,u1,u2,u3,u4],⟨g0,g1,g2,g3,g4,_⟩=>
     have g0:u0=.int .u8 ((fK w0 v els k).rho 3):=g0
     have g1:u1=.int .i64 ((fK w0 v els k).rho 4):=g1
     have g2:u2=.int .i64 ((fK w0 v els k).rho 5):=g2
     have g3:u3=.bool ([((6:Nat),(1:Int))].any λp=>decide ((fK w0 v els k).rho p.1=p.2)):=g3
     have g4:u4=.int .u8 ((fK w0 v els k).rho 7):=g4
     rw[g0,g1,g2,g3,g4,r0,r1,r2,r4]
     simp only[agz,List.any_nil,afL]
     rw[r3]
     cases d<;>rfl
   rw[e]
   exact(h w).mono λe w' ⟨e1,e2⟩=>⟨_,e1,rfl,e2⟩
 ·cases hg
theorem Xz (ho:Ops w0 v els){k:Nat}{el:List Value}(he:els[k]? =some el):@bQ (fK w0 v els k) tbO:=by
 letI:Base:=fK w0 v els k
 have hk:=ho.kd k el he
 have hlt:k<els.length:=(aeU.1 he).1
 refine⟨λl j h=>?_,λl i cs h=>?_,λi c j h=>?_⟩
 ·have h:(bif aia 0 l then some 0 else none)=some j:=h
  cases hb:aia 0 l<;>rw[hb]at h<;>cases h
  obtain⟨A,c,e⟩:=ho.sl
  exact⟨A,els.length,c,e,rfl⟩
 ·have h:(bif aia 0 l&&N.eqv (.x 1) i then some opC else none)=some cs:=h
  cases hb:(aia 0 l&&N.eqv (.x 1) i)<;>rw[hb]at h<;>cases h
  simp only[aeI]at hb
  obtain rfl:=N.y9 hb.2
  obtain⟨b,off,c,e,hc⟩:=ho.at_ k el he
  have hn:NV (.x 1)=(k:Int):=rfl
  refine⟨b,off,els.length,c,el,e,by rw[hn];omega,by rw[hn];omega,⟨by rw[hn];exact he,λf u hf w hw=>?_⟩,?_⟩
  ·have hcell:=hc f u hf
   rw[hn]
   have hblk:w.heap[b]? =w0.heap[b]? :=hw b (ahK w0 ⟨b,off+k*5+f,none⟩ hcell)
   rw[<-hcell]
   exact ahI hblk
  ·obtain⟨a,b,c,d,e,rfl⟩:=BD hk
   have hr:∀i x,([Value.int .u8 a,.int .i64 b,.int .i64 c,.bool d,.int .u8 e].map bD)[i]? =some x->(fK w0 v els k).rho (i+3)=x:=λi x hx=>by
    rw[abR,he]
    simp only[Dy,aht,aI,hx]
   have r0:=hr 0 _ rfl
   have r1:=hr 1 _ rfl
   have r2:=hr 2 _ rfl
   have r3:=hr 3 _ rfl
   have r4:=hr 4 _ rfl
   refine⟨λr=>?_,λr=>?_,λr=>?_,λr=>?_,λr=>?_,trivial⟩
   ·show _=Value.int .u8 ((fK w0 v els k).rho 3);rw[r0];rfl
   ·show _=Value.int .i64 ((fK w0 v els k).rho 4);rw[r1];rfl
   ·show _=Value.int .i64 ((fK w0 v els k).rho 5);rw[r2];rfl
   ·show _=Value.bool ([((6:Nat),(1:Int))].any λp=>decide ((fK w0 v els k).rho p.1=p.2))
    simp only[agz,List.any_nil,afL]
    rw[r3]
    cases d<;>rfl
   ·show _=Value.int .u8 ((fK w0 v els k).rho 7);rw[r4];rfl
 ·have h:(bif aia 1 i&&decide ((1:Int)=c)then some 2 else none)=some j:=h
  cases hb:(aia 1 i&&decide ((1:Int)=c))<;>rw[hb]at h<;>cases h
  simp only[aeI,af6]at hb
  obtain rfl:=aeX hb.1
  obtain rfl:=hb.2
  have hm:=ho.most
  refine⟨?_,?_,?_⟩
  ·show((k+1:Nat):Int)=(k:Int)+1
   omega
  ·show(-9223372036854775808:Int)<=((k+1:Nat):Int)
   omega
  ·show((k+1:Nat):Int)<=9223372036854775807
   omega
theorem Yk (ho:Ops w0 v els)(k:Nat):@bQ (fK w0 v els k) tbL:=by
 letI:Base:=fK w0 v els k
 refine⟨λl j h=>?_,λl i cs h=>(by cases h),λi c j h=>(by cases h)⟩
 have h:(bif aia 0 l then some 0 else none)=some j:=h
 cases hb:aia 0 l<;>rw[hb]at h<;>cases h
 obtain⟨A,c,e⟩:=ho.sl
 exact⟨A,els.length,c,e,rfl⟩
theorem aaP (k:Nat):Agree (fK w0 v els k) (fK w0 v els (k+1)) ⟨1,0,1⟩:=⟨rfl,rfl,λi hi=>by
 have hi:i<1:=hi
 obtain rfl:i=0:=by omega
 rfl,λ_ _=>rfl,λ_ _=>rfl⟩
theorem agree0 (b1 b2:Base)(h1:b1.nb=b2.nb)(h2:b1.g=b2.g):Agree b1 b2 ⟨0,0,0⟩:=⟨h1,h2,λi h=>absurd h (ag7 i),λi h=>absurd h (ag7 i),λi h=>absurd h (ag7 i)⟩
theorem holds1 {k:Nat}(h:k<els.length):L1.Holds (fK w0 v els k).rho (fK w0 v els k).sig:=
 ⟨λi p h=>(by cases h),λi j h=>(by cases h),λi j hij=>by
  have:(i,j)∈[((1:Nat),(0:Nat))]:=hij
  simp only[aeR,agf]at this
  obtain⟨rfl,rfl⟩:=this
  show(k:Int)<(els.length:Int)
  omega,λi j h=>(by cases h),λi l h=>(by cases h),λi l h=>(by cases h),λm h=>(by cases h)⟩
theorem holds2 (b:Base):L2.Holds b.rho b.sig:=
 ⟨λi p h=>(by cases h),λi j h=>(by cases h),λi j h=>(by cases h),λi j h=>(by cases h),λi l h=>(by cases h),λi l h=>(by cases h),λm h=>(by cases h)⟩
theorem WU (k:Nat):Lens [] (fK w0 v els k).rho (fK w0 v els k).sig:=⟨λi _=>afb _,λi h=>by cases h⟩
theorem DF {k:Nat}{b2:Base}{d:Bd}(ag:Agree (fK w0 v els k) b2 d){c:Code}{hd s1:St}(hnx:hd.h.next=s1.h.next){x:X}{L:Lf}(hL:L.Holds (fK w0 v els k).rho (fK w0 v els k).sig){T:Tabs}(hT:@bQ (fK w0 v els k) T)
  {O:aU} (hs:@Sound (fK w0 v els k) Tryz.prog O) {th:Th} (hth:Th.ok (fK w0 v els k) b2 th)
  (hrun:oC d th x s1 (@exec (L.know []) (DC T O) 0 5 c hd)=true):Turns Tryz.prog (fK w0 v els k) b2 c hd x s1:=by
 refine Un GV ag hnx (sp:=.leaf) hL (WU k) (λ_=>DC T O) (λ_=>th) (λL' h'=>?_) (λL' h'=>?_) (λL' h'=>?_) (λL' _ _=>hth) (n:=5) ?_
 ·exact @yJ ((fK w0 v els k).aF (L'.know []) (Lf.ok h' (WU k))) Tryz.prog
 ·exact @tu.mk ((fK w0 v els k).aF (L'.know []) (Lf.ok h' (WU k))) _ (DC T O) (Sound.aF hs _) (bQ.aF hT _)
 ·exact Loops.wJ (λc=>@aO.none ((fK w0 v els k).aF (L'.know []) (Lf.ok h' (WU k))) Tryz.prog c) c
 ·show((Sp.leaf.leaves L).all _)=true
  show(oC d th x s1 (@exec (L.know []) (DC T O) 0 5 c hd)&&true)=true
  rw[hrun]
  rfl
end
def WS:Code:=dZ Tryz.f80 0
def abg:List V:=List.replicate Tryz.f80.ntmps V.any
def hdC (i:Nat):St:=⟨upd (upd (upd abg 116 (V.s (.rv 0))) 117 (V.s (.xi .i64 0))) 118 (V.s (.xi .i64 i)),⟨[],1⟩⟩
def okC:St:=⟨abg,⟨[],1⟩⟩
def a9H:St:=⟨upd abg 2 (V.s (.int .i64 8)),⟨[],1⟩⟩
def Wu:Code:=dZ Tryz.f85 0
def a9Q:List V:=List.replicate Tryz.f85.ntmps V.any
def hdV (i:Nat):St:=⟨upd (upd a9Q 1 (V.s (.ptr 0 0))) 6 (V.s (.xi .i64 i)),⟨[(0,⟨[.top,.top,.top,.top,.top,.top,.top,.top,.top,.rv 0,.top,.top,.top],true⟩)],1⟩⟩
def okV:St:=⟨a9Q,⟨[],1⟩⟩
def a4g:St:=⟨upd a9Q 2 (V.s (.bool false)),⟨[],1⟩⟩
def a5F:Th:=[(.xi .i64 1,.xi .i64 2)]
def WH:Th:=[(.xi .i64 0,.xi .i64 1)]
def Hl (nl m:Nat):Th:=[(.xi .i64 0,.xi .i64 nl),(.xi .i64 1,.int .i64 0),(.rv 0,.rv m)]
theorem Ls:oC ⟨1,0,1⟩ a5F .normal (hdC 1) (@exec (L1.know []) (DC tbO (Ad 126 0)) 0 5 WS (hdC 1))=true:=by kernel_rfl
theorem ZW:oC ⟨0,0,0⟩ [] (.exit 1) okC (@exec (L2.know []) (DC tbL O7) 0 5 WS (hdC 0))=true:=by kernel_rfl
theorem a0X:oC ⟨0,0,0⟩ [] .ret a9H (@exec (L1.know []) (DC tbO (Ad 126 8)) 0 5 WS (hdC 1))=true:=by kernel_rfl
theorem Ld:oC ⟨1,0,1⟩ a5F .normal (hdV 1) (@exec (L1.know []) (DC tbO (Ad 125 0)) 0 5 Wu (hdV 1))=true:=by kernel_rfl
theorem Yv:oC ⟨0,0,0⟩ [] (.exit 1) okV (@exec (L2.know []) (DC tbL O7) 0 5 Wu (hdV 0))=true:=by kernel_rfl
theorem a1G:oC ⟨0,0,0⟩ [] .ret a4g (@exec (L1.know []) (DC tbO (Ad 125 8)) 0 5 Wu (hdV 1))=true:=by kernel_rfl
theorem RY:wV ⟨1,0,1⟩ WH (hdC 0) (hdC 1)=true:=by kernel_rfl
theorem Sr:wV ⟨1,0,1⟩ WH (hdV 0) (hdV 1)=true:=by kernel_rfl
theorem Turns.pre {P:Program}{b1 b2:Base}{d:Bd}(ag:Agree b1 b1 d){th:Th}(ht:Th.ok b1 b1 th){c:Code}{hd hd' s1:St}{x:X}(hf:wV d th hd' hd=true)(hnx:hd.h.next=hd'.h.next)(h:Turns P b1 b2 c hd' x s1):Turns P b1 b2 c hd x s1:=by
 intro r B a w hr
 obtain⟨k1,k2⟩:=yw ag ht hf hr
 have hadv:=k2 (fl:=0) (Parts.ok hr).n hnx (@Adv.refl b1 0 hd.h r B w (@Rel.i b1 _ _ _ _ _ hr)) (λl _ h=>absurd h (ag7 l))
 exact wp_mono (h k1) λe a' w' ⟨h1,r',h2,h3,h4⟩=>⟨h1,r',h2,Adv.trans' (Parts.ok hr).dom (Parts.ok k1).dom hadv h3,h4⟩
section
variable {w0:World} {v:Value} {els:List (List Value)}
theorem a5T (k:Nat):Th.ok (fK w0 v els k) (fK w0 v els (k+1)) a5F:=by
 intro p hp r u hu
 obtain rfl:=aeR.1 hp
 exact hu
theorem a8U (b1 b2:Base):Th.ok b1 b2 []:=λp hp=>by cases hp
theorem a3J {k:Nat}(h:k=els.length):Th.ok (fK w0 v els k) (fK w0 v els k) WH:=by
 intro p hp r u hu
 obtain rfl:=aeR.1 hp
 subst h
 exact hu
theorem a6a {bo:Base}{nl m:Nat}(h1:bo.rho nl=els.length)(h2:(bo.lst m).v=v):Th.ok bo (fK w0 v els 0) (Hl nl m):=by
 intro p hp r u hu
 simp only[Hl,aeQ,ahv,afj]at hp
 rcases hp with rfl|rfl|rfl
 ·have hu:u=.int .i64 (bo.rho nl):=hu
  show u=.int .i64 (els.length:Int)
  rw[hu,h1]
 ·exact hu
 ·have hu:∃A n c,(bo.lst m).v=.slice A n c/\u=.slice A n c:=hu
  rw[h2]at hu
  exact hu
variable {F:FuncId} (hF:dJ Tryz.prog F) (ho:Ops w0 v els) {cs:Nat->Int} (hs:∀i el,els[i]? =some el->Says F el (cs i)) {N:Nat} (h0:∀i,i<N->cs i=0)
include hF ho hs h0
theorem O4 {bo:Base}(hnb:bo.nb=w0.heap.size)(hg:bo.g=λb=>w0.heap[b]?){nl m:Nat}(hl:bo.rho nl=els.length)(hv:(bo.lst m).v=v){c:Code}{hd:Nat->St}(hn1:(hd 1).h.next=(hd 0).h.next)
  (step:oC ⟨1,0,1⟩ a5F .normal (hd 1) (@exec (L1.know []) (DC tbO (Ad F 0)) 0 5 c (hd 1))=true) (hfit:wV ⟨1,0,1⟩ WH (hd 0) (hd 1)=true) {x:X} (hx:x≠.normal) {s1:St} (hn2:(hd 1).h.next=s1.h.next)
  (last:(N=els.length/\oC ⟨0,0,0⟩ [] x s1 (@exec (L2.know []) (DC tbL O7) 0 5 c (hd 0))=true)\/(N<els.length/\cs N=8/\oC ⟨0,0,0⟩ [] x s1 (@exec (L1.know []) (DC tbO (Ad F 8)) 0 5 c (hd 1))=true)) (tag:Nat):
  @aO bo Tryz.prog (jh tag ⟨0,0,0⟩ (Hl nl m) (hd 1) x s1) c:=by
 have hN:N<=els.length:=by rcases last with⟨h,_⟩|⟨h,_⟩<;>omega
 have hel:∀k,k<els.length->∃el,els[k]? =some el:=λk hk=>⟨_,aeK hk⟩
 refine @Nz _ bo (λk=>fK w0 v els k) c _ _ _ _ x hx N (agree0 _ _ hnb hg) (a6a hl hv) (λk hk=>?_) ?_ tag
 ·obtain⟨el,he⟩:=hel k (by omega)
  exact DF (aaP k) rfl (holds1 (by omega)) (Xz ho he) (Bo he (ho.kd k el he) hF (h0 k hk▸hs k el he)) (a5T k) step
 ·rcases last with⟨rfl,last⟩|⟨hlt,h8,last⟩
  ·have hsn:@Sound (fK w0 v els els.length) Tryz.prog O7:=λ_ _ _ _ _ _ h=>by cases h
   intro r B a w hr
   exact Turns.pre ⟨rfl,rfl,λ_ _=>rfl,λ_ _=>rfl,λ_ _=>rfl⟩ (a3J rfl) hfit hn1 (DF (agree0 _ _ hnb.symm hg.symm) (hn1.symm.trans hn2) (holds2 _) (Yk ho _) hsn (a8U _ _) last) hr
  ·obtain⟨el,he⟩:=hel N hlt
   exact DF (agree0 _ _ hnb.symm hg.symm) hn2 (holds1 hlt) (Xz ho he) (Bo he (ho.kd N el he) hF (h8▸hs N el he)) (a8U _ _) last
end
open Go.ChangeShapes Go.WideShapes Go.Deep
section
variable {H:Type} {enc:TypeId×Value->H} {P:Program} {w:World} {base:Nat} {spare:Nat->Bool} {held:Bool}
def a2Z (P:Program)(t:TypeId):Bool:=match P.underlying t with |some .bool=>true|some (.int _)=>true|some .string=>true|some (.slice _)=>true|_=>false
def Ii (P:Program):Nat->Nat->TypeId->List (Nat×TypeId)
 |0,_,_=>[]
 |n+1,o,t=>bif a2Z P t then[(o,t)]else match P.underlying t with
  |some (.struct fs)=>fs.toList.flatMap λf=>Ii P n (o+f.offset) f.type
  |_=>[]
theorem trod_one {t:TypeId}{fuel:Nat}{cs:List Value}{x:DataW H×List MemPlace}(ht:a2Z P t=true)(h:DataW.trod enc P w base spare held fuel t cs=some x):∃v,cs=[v]:=by
 unfold a2Z at ht
 split at ht<;>rename_i hu
 ·obtain⟨b,rfl,_⟩:=DataW.trod_bool hu h;exact⟨_,rfl⟩
 ·obtain⟨n,rfl,_⟩:=DataW.trod_int hu h;exact⟨_,rfl⟩
 ·obtain⟨s,rfl,_⟩:=DataW.trod_string hu h;exact⟨_,rfl⟩
 ·rcases open_slice hu h with⟨rfl,_⟩|⟨a,l,c,m,n,D,Pl,rfl,_⟩<;>exact⟨_,rfl⟩
 ·cases ht
theorem KN:∀(n o:Nat) (t:TypeId) (fuel:Nat) (cs:List Value) (x:DataW H×List MemPlace),DataW.trod enc P w base spare held fuel t cs=some x->
  ∀p∈Ii P n o t,o<=p.1/\∃v y m,cs[p.1-o]? =some v/\a2Z P p.2=true/\DataW.trod enc P w base spare held m p.2 [v]=some y
 |0,_,_,_,_,_,_,p,hp=>by simp[Ii]at hp
 |n+1,o,t,fuel,cs,x,h,p,hp=>by
  rw[Ii]at hp
  cases ho:a2Z P t<;>rw[ho]at hp<;>simp only[aeW,aeS]at hp
  ·split at hp
   ·rename_i fs hu
    obtain⟨f,hf,hp⟩:=agK.1 hp
    obtain⟨xs,m,_,_,_,hlen,hg⟩:=DataW.trod_struct hu h
    obtain⟨i,hi⟩:=afD hf
    have hi:fs[i]? =some f:=by rw[<-afx];exact hi
    have h1:=hg i f hi
    have hil:i<xs.length:=by have:=(aeN.1 hi).1;omega
    rw[aeK hil]at h1
    obtain⟨k1,v,y,m',k2,k3,k4⟩:=KN n (o+f.offset) f.type m _ _ h1 p hp
    refine⟨by omega,v,y,m',?_,k3,k4⟩
    rw[afQ]at k2
    split at k2
    ·rw[afR]at k2
     rw[<-k2]
     congr 1
     omega
    ·cases k2
   ·cases hp
  ·rcases aeR.1 hp with rfl
   obtain⟨v,rfl⟩:=trod_one ho h
   exact⟨aeM _,v,x,fuel,by simp,ho,h⟩
theorem a5t {t:TypeId}{kd:Kd}(hk:a2F P t=some kd){m:Nat}{v:Value}{y:DataW H×List MemPlace}(h:DataW.trod enc P w base spare held m t [v]=some y):kd.ok v:=by
 unfold a2F at hk
 split at hk<;>cases hk<;>rename_i hu
 ·obtain⟨b,e,_⟩:=DataW.trod_bool hu h
  cases e
  exact⟨b,rfl⟩
 ·obtain⟨n,e,_,hw⟩:=DataW.trod_int hu h
  cases e
  refine⟨n,rfl,?_⟩
  simpa[Lit.wf,IntKind.has]using hw
 ·obtain⟨s,e,_,hs⟩:=DataW.trod_string hu h
  cases e
  exact⟨s,rfl,by have:s.size<=9223372036854775807:=hs;show(s.size:Int)<=9223372036854775807;omega⟩
end
def qM:List Kd:=[.i .u8,.i .u8,.i .i64,.i .i64,.b,.i .u8,.i .i64,.i .i64,.i .i64]
def kW:List Kd:=[.i .i64,.b,.i .u8]
structure jd (w:World)(v:Value)(pre:List Value)(sv:Value)(post:List Value)(els:List (List Value)):Prop where
 v:v=.agg (pre++sv::post).toArray
 pre:au Kd.ok qM pre
 post:au Kd.ok kW post
 ops:Ops w sv els
def vT:List S:=dD 0 qM++.rv 0::dD 10 kW
def tbJ:Tabs:=⟨[(0,9)],[],[]⟩
def Dz:FuncId->Loops:=dV [(80,jh 17 ⟨0,0,0⟩ (Hl 9 0) (hdC 1) (.exit 1) okC),(85,jh 16 ⟨0,0,0⟩ (Hl 9 0) (hdV 1) (.exit 1) okV)]
def He:FuncId->Loops:=dV [(80,jh 17 ⟨0,0,0⟩ (Hl 9 0) (hdC 1) .ret a9H),(85,jh 16 ⟨0,0,0⟩ (Hl 9 0) (hdV 1) .ret a4g)]
def E5:FuncId->Loops:=λ_ _ _ _=>none
def NK (L:Lf):FuncId->Loops:=Option.rec E5 (λp=>bif decide (p=(1,1))then Dz else bif decide (p=(0,0))then He else E5) (nth L.iv 13)
theorem VW {bo:Base}{x:X}{s1:St}(h:@aO bo Tryz.prog (jh 17 ⟨0,0,0⟩ (Hl 9 0) (hdC 1) x s1) WS)(F:Func)(c:Code)(hF:Tryz.prog.funcs[80]? =some F)(hc:F.body=some c):Loops.ok (@aO bo Tryz.prog (jh 17 ⟨0,0,0⟩ (Hl 9 0) (hdC 1) x s1)) c:=by
 obtain rfl:Tryz.f80=F:=afE (Tryz.func80.symm.trans hF)
 have ht:(gX ((Tryz.f80.body).getD .skip)).map Code.tag=[17]:=by kernel_rfl
 rw[hc]at ht
 have ht:(gX c).map Code.tag=[17]:=ht
 exact Loops.a1T hc (i:=0) (by rw[ht];decide) (by have:=congrArg List.length ht;simp at this;omega) (by kernel_rfl) h
theorem WZ {bo:Base}{x:X}{s1:St}(h:@aO bo Tryz.prog (jh 16 ⟨0,0,0⟩ (Hl 9 0) (hdV 1) x s1) Wu)(F:Func)(c:Code)(hF:Tryz.prog.funcs[85]? =some F)(hc:F.body=some c):Loops.ok (@aO bo Tryz.prog (jh 16 ⟨0,0,0⟩ (Hl 9 0) (hdV 1) x s1)) c:=by
 obtain rfl:Tryz.f85=F:=afE (Tryz.func85.symm.trans hF)
 have ht:(gX ((Tryz.f85.body).getD .skip)).map Code.tag=[16]:=by kernel_rfl
 rw[hc]at ht
 have ht:(gX c).map Code.tag=[16]:=ht
 exact Loops.a1T hc (i:=0) (by rw[ht];decide) (by have:=congrArg List.length ht;simp at this;omega) (by kernel_rfl) h
theorem Md (cs:Nat->Int):∀n,(∀i,i<n->cs i=0)\/∃N,N<n/\(∀i,i<N->cs i=0)/\cs N≠0
 |0=>.inl λ_ h=>absurd h (ag7 _)
 |n+1=>by
  rcases Md cs n with h|⟨N,h1,h2⟩
  ·by_cases hc:cs n=0
   ·exact .inl λi hi=>by
     rcases afp i n with h'|h'
     ·exact h i h'
     ·obtain rfl:i=n:=by omega
      exact hc
   ·exact .inr ⟨n,by omega,h,hc⟩
  ·exact .inr ⟨N,by omega,h2⟩
theorem adz:dJ Tryz.prog 126:=⟨_,Tryz.func126,by kernel_rfl,by kernel_rfl⟩
theorem acs:dJ Tryz.prog 125:=⟨_,Tryz.func125,by kernel_rfl,by kernel_rfl⟩
theorem UH {w:World}{sv:Value}{els:List (List Value)}(ho:Ops w sv els){cs:Nat->Int}(hs:∀i el,els[i]? =some el->Says 126 el (cs i))(hs':∀i el,els[i]? =some el->Says 125 el (cs i))
  {bo:Base} (hnb:bo.nb=w.heap.size) (hg:bo.g=λb=>w.heap[b]?) (hl:bo.rho 9=els.length) (hv:(bo.lst 0).v=sv) (h0:∀i,i<els.length->cs i=0):
  ∀f F c,Tryz.prog.funcs[f]? =some F->F.body=some c->Loops.ok (@aO bo Tryz.prog (Dz f)) c:=by
 refine Di _ λp hp=>?_
 simp only[aeQ,ahv,afj]at hp
 rcases hp with rfl|rfl
 ·exact VW (O4 (x:=.exit 1) (s1:=okC) adz ho hs h0 hnb hg hl hv rfl Ls RY (λh=>by cases h) rfl (.inl ⟨rfl,ZW⟩) 17)
 ·exact WZ (O4 (x:=.exit 1) (s1:=okV) acs ho hs' h0 hnb hg hl hv rfl Ld Sr (λh=>by cases h) rfl (.inl ⟨rfl,Yv⟩) 16)
theorem YM {w:World}{sv:Value}{els:List (List Value)}(ho:Ops w sv els){cs:Nat->Int}(hs:∀i el,els[i]? =some el->Says 126 el (cs i))(hs':∀i el,els[i]? =some el->Says 125 el (cs i))
  {bo:Base} (hnb:bo.nb=w.heap.size) (hg:bo.g=λb=>w.heap[b]?) (hl:bo.rho 9=els.length) (hv:(bo.lst 0).v=sv) {N:Nat} (hN:N<els.length) (h0:∀i,i<N->cs i=0) (h8:cs N=8):
  ∀f F c,Tryz.prog.funcs[f]? =some F->F.body=some c->Loops.ok (@aO bo Tryz.prog (He f)) c:=by
 refine Di _ λp hp=>?_
 simp only[aeQ,ahv,afj]at hp
 rcases hp with rfl|rfl
 ·exact VW (O4 (x:=.ret) (s1:=a9H) adz ho hs h0 hnb hg hl hv rfl Ls RY (λh=>by cases h) rfl (.inr ⟨hN,h8,a0X⟩) 17)
 ·exact WZ (O4 (x:=.ret) (s1:=a4g) acs ho hs' h0 hnb hg hl hv rfl Ld Sr (λh=>by cases h) rfl (.inr ⟨hN,h8,a1G⟩) 16)
