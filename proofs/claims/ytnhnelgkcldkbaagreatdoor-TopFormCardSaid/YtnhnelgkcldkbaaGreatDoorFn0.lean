/- Functions of lists, by the machine: numbers and lists behind a call, cases split by hints, and what comes out told by tests of numbers. (No program in sight.) -/
import Derived.Test.YtnhnelgkcldkbaaGreatDoorAmC
set_option linter.all false
namespace Go.Proofs.YtnhnelgkcldkbaaGreatDoor
namespace Am
open Go.RowKit
def aA (xs:List Int)(i:Nat):Int:=xs.getD i 0
structure Env where
 w:World
 xs:List Int
 ls:List a5n
@[reducible] def Env.b (e : Env) : Base := { Know.nought with nb := e.w.heap.size, g := λk => e.w.heap[k]?, rho := aA e.xs, sig := λ_ => [], ok := aC.nought _ _, lst := λk => e.ls.getD k ⟨.pointer none, []⟩ }
structure Fx where
 ad:List (Nat×Int×Nat)
 xt:x9
structure vJ (f:Fx)(rho:Nat->Int):Prop where
 ad:∀i c k,(i,c,k)∈f.ad->rho i+c=rho k/\IntKind.i64.min<=rho k/\rho k<=IntKind.i64.max
 xt:vK f.xt rho
@[reducible] def Lf.ig (L : Lf)(f : Fx) : Know := ⟨L.iv, L.ne, L.lt, [], [], [], L.cf, [], [], [], [], f.ad, f.xt⟩
theorem Lf.okX {L:Lf}{f:Fx}{rho:Nat->Int}{sig:Nat->List UInt8}(h:L.Holds rho sig)(q:vJ f rho):aC (L.ig f) rho sig where
 iv:=h.iv
 ne i j e:=h.ne i j (pU e)
 lt i j e:=h.lt i j (pU e)
 mx _ _ e:=by cases e
 sq _ _ _ e:=by cases e
 ln _ _ e:=by cases e
 cf:=h.cf
 df _ _ _ e:=by cases e
 sx _ _ _ e:=by cases e
 ct _ _ _ _ e:=by cases e
 sb _ _ _ e:=by cases e
 ad:=q.ad
 xt:=q.xt
def Lf.of (iv:List (Int×Int)):Lf:=⟨iv,[],[],[],[],[],[]⟩
theorem Lf.a2A {iv:List (Int×Int)}{rho:Nat->Int}{sig:Nat->List UInt8}(h:∀i p,iv[i]? =some p->p.1<=rho i/\rho i<=p.2):(Lf.of iv).Holds rho sig where
 iv i p e:=h i p (by rw[<-aI];exact e)
 ne _ _ e:=by cases e
 lt _ _ e:=by cases e
 to i j e:=by
  have e:nth ([]:List Nat) i=some j:=e
  rw[Bh]at e
  cases e
 st _ _ e:=by cases e
 sn _ _ e:=by cases e
 cf _ e:=by cases e
noncomputable section
inductive HT where
 |leaf
 |cut (force:Bool) (i:Nat) (c:Int) (a b:HT)
structure Hint where
 force:Bool
 i:Nat
 c:Int
def HT.of:List Hint->HT
 |[]=>.leaf
 |p::r=>.cut p.force p.i p.c (HT.of r) (HT.of r)
abbrev HT.on (i:Nat)(c:Int)(a b:HT):HT:=.cut true i c a b
abbrev HT.by (i:Nat)(c:Int)(a b:HT):HT:=.cut false i c a b
abbrev HT.both (i:Nat)(c:Int)(t:HT):HT:=.cut false i c t t
def below (L:Lf)(i:Nat)(c:Int):Bool:=Option.rec true (λp=>decide (p.2<c)) (nth L.iv i)
def above (L:Lf)(i:Nat)(c:Int):Bool:=Option.rec true (λp=>decide (c<=p.1)) (nth L.iv i)
def aG (test:Lf->Bool)(t:HT):Lf->Bool:=
 HT.rec (λL=>test L) (λforce i c _ _ ia ib L=>bif below L i c then ia L else bif above L i c then ib L else(bif force then false else test L)||(ia (L.hi i (c-1))&&ib (L.lo i c))) t
theorem pI {test:Lf->Bool}{rho:Nat->Int}{sig:Nat->List UInt8}:∀{t:HT} {L:Lf},aG test t L=true->L.Holds rho sig->∃L':Lf,L'.Holds rho sig/\test L'=true
 | .leaf,L,h,hL=>⟨L,hL,h⟩
 | .cut force i c a b,L,h,hL=>by
  have h:(bif below L i c then aG test a L else bif above L i c then aG test b L else(bif force then false else test L)||(aG test a (L.hi i (c-1))&&aG test b (L.lo i c)))=true:=h
  cases h1:below L i c<;>rw[h1]at h<;>simp only[aeW,aeS]at h
  ·cases h2:above L i c<;>rw[h2]at h<;>simp only[aeW,aeS]at h
   ·rw[afJ]at h
    rcases h with h|h
    ·cases hf:force<;>rw[hf]at h<;>simp only[aeW,aeS]at h
     ·exact⟨L,hL,h⟩
     ·cases h
    ·rw[aeI]at h
     by_cases hc:rho i<c
     ·exact pI h.1 (hL.hi (by omega))
     ·exact pI h.2 (hL.lo (by omega))
   ·exact pI h hL
  ·exact pI h hL
end
def E.num (rho:Nat->Int):E->Bool
 | .lt i c=>decide (rho i<c)
 | .zero l=>l.all λp=>decide (rho p.1=p.2)
 | .and a b=>a.num rho&&b.num rho
 | .or a b=>a.num rho||b.num rho
 | .not a=>!a.num rho
noncomputable section
section
variable [Know]
def aaJ (l:List (Nat×Int)):Option Bool:=List.rec (some true) (λp _ ih=>JI (eqC p.1 p.2) ih) l
def E.JO (e:E):Option Bool:=
 E.rec (λi c=>ltX (.x i) (.c c)) (λl=>aaJ l) (λ_ _ a b=>JI a b) (λ_ _ a b=>uo (JI (uo a) (uo b))) (λ_ a=>uo a) e
end
theorem Vr [Base]:∀{l:List (Nat×Int)} {b:Bool},aaJ l=some b->(l.all λp=>decide (Base.rho p.1=p.2))=b
 |[],b,h=>by cases h;rfl
 |p::l,b,h=>by
  rw[afz]
  exact Bc (λc h=>vZ h) (λc h=>Vr h) (show JI (eqC p.1 p.2) (aaJ l)=some b from h)
theorem E.vM [Base]:∀{e:E} {b:Bool},e.JO=some b->e.num Base.rho=b
 | .lt i c,b,h=>(tZ (show ltX (.x i) (.c c)=some b from h)).symm
 | .zero l,b,h=>Vr h
 | .and p q,b,h=>Bc (λ_ h=>E.vM h) (λ_ h=>E.vM h) (show JI p.JO q.JO=some b from h)
 | .or p q,b,h=>by
  have h:uo (JI (uo p.JO) (uo q.JO))=some b:=h
  have:=tq (λ_ h=>Bc (λ_ h=>tq (λ_ h=>E.vM h) h) (λ_ h=>tq (λ_ h=>E.vM h) h) h) h
  rw[<-this]
  show(p.num Base.rho||q.num Base.rho)=_
  cases p.num Base.rho<;>cases q.num Base.rho<;>rfl
 | .not p,b,h=>tq (λ_ h=>E.vM h) (show uo p.JO=some b from h)
def yE [Know](es:List E):Option (List Bool):=List.rec (some []) (λe _ ih=>ob e.JO λb=>ob ih λr=>some (b::r)) es
theorem yQ [Base]:∀{es:List E} {bs:List Bool},yE es=some bs->es.map (E.num Base.rho)=bs
 |[],bs,h=>by cases h;rfl
 |e::es,bs,h=>by
  obtain⟨b,hb,h⟩:=aj (show(ob e.JO λb=>ob (yE es) λr=>some (b::r))=some bs from h)
  obtain⟨r,hr,h⟩:=aj h
  cases h
  rw[afr,E.vM hb,yQ hr]
def IG [Know](as:List (E×Bool)):Bool:=as.any λp=>Option.rec false (λb=>xor b p.2) p.1.JO
theorem AZ [Base]{as:List (E×Bool)}(h:∀p∈as,p.1.num Base.rho=p.2):IG as=false:=by
 unfold IG
 rw[ahp]
 intro p hp
 cases ha:p.1.JO with
 |none=>simp
 |some b=>
  have:=h p hp
  rw[E.vM ha]at this
  simp[this]
structure Upd where
 y:S
 es:List E
 f:List Bool->S
def isU (y x:S):Upd:=⟨y,[],λ_=>x⟩
def Y5 (y:S)(e:E):Upd:=⟨y,[e],λbs=>.bool (bs.headD false)⟩
def thU [Know](us:List Upd):Th:=us.filterMap λu=>Option.rec none (λbs=>some (u.y,u.f bs)) (yE u.es)
def iQ (b1 b2:Base)(u:Upd):Prop:=∀r v,@VS b1 r (u.f (u.es.map (E.num b1.rho))) v->@VS b2 r u.y v
theorem Ue {b1 b2:Base}{us:List Upd}(h:∀u∈us,iQ b1 b2 u):Th.ok b1 b2 (@thU b1.toKnow us):=by
 intro p hp r v hv
 unfold thU at hp
 rw[List.mem_filterMap]at hp
 obtain⟨u,hu,hp⟩:=hp
 cases ha:@yE b1.toKnow u.es with
 |none=>rw[ha]at hp;cases hp
 |some bs=>
  rw[ha]at hp
  cases hp
  refine h u hu r v ?_
  rw[@yQ b1 _ _ ha]
  exact hv
theorem dM {b1 b2:Base}{y x:S}(h:∀r v,@VS b1 r x v->@VS b2 r y v):iQ b1 b2 (isU y x):=h
theorem CG {b1 b2:Base}{i:Nat}{e:E}(h:b2.rho i=1↔e.num b1.rho=true):iQ b1 b2 (Y5 (.xe [(i,1)]) e):=by
 intro r v hv
 have hv:v=.bool (e.num b1.rho):=hv
 show v=.bool (decide (b2.rho i=1)||false)
 rw[hv,afL]
 congr 1
 cases hb:e.num b1.rho
 ·exact(af2 λhh=>by rw[h.1 hh]at hb;cases hb).symm
 ·exact(afn (h.2 hb)).symm
def L9 (i:Nat)(e:E)(j:Nat):Upd:=⟨.xe [(i,1)],[e,.zero [(j,1)]],λbs=>bif bs.headD false==(bs.drop 1).headD false then .xe [(j,1)]else .bool (bs.headD false)⟩
theorem D8 {b1 b2:Base}{i j:Nat}{e:E}(h:b2.rho i=1↔e.num b1.rho=true):iQ b1 b2 (L9 i e j):=by
 intro r v hv
 have hv:@VS b1 r (bif e.num b1.rho==(decide (b1.rho j=1)&&true)then .xe [(j,1)]else .bool (e.num b1.rho)) v:=hv
 have key:v=.bool (e.num b1.rho):=by
  cases hc:(e.num b1.rho==(decide (b1.rho j=1)&&true))<;>rw[hc]at hv<;>simp only[aeW,aeS]at hv
  ·exact hv
  ·have hv:v=.bool (decide (b1.rho j=1)||false):=hv
   rw[hv,afL]
   simp only[afg,ag4]at hc
   rw[hc]
 exact CG h r v key
structure Rig where
 ty:Tys
 fn:FuncId->Option Func
 lib:Know->aU
 tb:Tabs
 loops:Know->FuncId->Loops
 n:Nat
 d:Nat
def Rig.ctx (R:Rig)(K:Know)(f:FuncId):Ctx:=⟨R.ty,@qR K R.ty R.fn (R.lib K) R.tb (R.loops K) R.n R.d,R.tb,R.loops K f⟩
structure jJ (P:Program)(R:Rig)(b:Base):Prop where
 ty:∀K (ok:aC K b.rho b.sig),@eY (b.aF K ok) P R.ty
 fn:a4P P R.fn
 lib:∀K (ok:aC K b.rho b.sig),@Sound (b.aF K ok) P (R.lib K)
 mixed:P.follows .mixedOrders=true
 tb:@bQ b R.tb
 loops:∀K (ok:aC K b.rho b.sig) f F c,P.funcs[f]? =some F->F.body=some c->Loops.ok (@aO (b.aF K ok) P (R.loops K f)) c
theorem JC {b:Base}{T:Tabs}(h:@bQ b T){K:Know}(ok:aC K b.rho b.sig):@bQ (b.aF K ok) T:=by
 obtain⟨h1,h2,h3⟩:=h
 exact @bQ.mk (b.aF K ok) T h1 h2 h3
theorem jJ.sound {P:Program}{R:Rig}{b:Base}(h:jJ P R b)(K:Know)(ok:aC K b.rho b.sig):@Sound (b.aF K ok) P (@qR K R.ty R.fn (R.lib K) R.tb (R.loops K) R.n R.d):=
 @yF (b.aF K ok) P R.ty (h.ty K ok) R.fn h.fn (R.lib K) (h.lib K ok) h.mixed R.tb (JC h.tb ok) (R.loops K) (h.loops K ok) R.n R.d
theorem Turns.aF {P:Program}{b1 b2:Base}{c:Code}{hd s1:St}{x:X}(h:Turns P b1 b2 c hd x s1){K:Know}(ok:aC K b2.rho b2.sig):Turns P b1 (b2.aF K ok) c hd x s1:=by
 intro r B a w hr
 exact wp_mono (h hr) λe a' w' ⟨g1,r',g2,g3,g4⟩=>⟨g1,r',Rel.aF b2 ok g2,g3,g4⟩
theorem Agree.aF {b1 b2:Base}{d:Bd}(h:Agree b1 b2 d){K:Know}(ok:aC K b1.rho b1.sig):Agree (b1.aF K ok) b2 d:=⟨h.nb,h.g,h.n,h.s,h.l⟩
def dQ (R:Rig)(f:FuncId)(fx:Fx)(as:List (E×Bool))(us:List Upd)(d:Bd)(c:Code)(hd:St)(x:X)(s1:St)(L:Lf):Bool:=
 @IG (L.ig fx) as||oC d (@thU (L.ig fx) us) x s1 (@exec (L.ig fx) (R.ctx (L.ig fx) f) 0 R.n c hd)
theorem En {P:Program}{R:Rig}{f:FuncId}{b1 b2:Base}(hR:jJ P R b1){d:Bd}(ag:Agree b1 b2 d){c:Code}{hd s1:St}(hnx:hd.h.next=s1.h.next){x:X}{L0:Lf}{hs:HT}{fx:Fx}{as:List (E×Bool)}{us:List Upd}
  (h0:L0.Holds b1.rho b1.sig) (hf:vJ fx b1.rho) (has:∀p∈as,p.1.num b1.rho=p.2) (hus:∀u∈us,iQ b1 b2 u)
  (hL:∀K (ok:aC K b1.rho b1.sig),Loops.ok (@aO (b1.aF K ok) P (R.loops K f)) c)
  (hrun:aG (dQ R f fx as us d c hd x s1) hs L0=true):Turns P b1 b2 c hd x s1:=by
 intro r B a w hr
 obtain⟨L,hLh,ht⟩:=pI hrun h0
 unfold dQ at ht
 rw[afJ]at ht
 let bL:Base:=b1.aF (L.ig fx) (Lf.okX hLh hf)
 rcases ht with ht|ht
 ·rw[@AZ bL as has]at ht
  cases ht
 ·cases he:@exec (L.ig fx) (R.ctx (L.ig fx) f) 0 R.n c hd with
  |none=>rw[he]at ht;cases ht
  |some p=>
   obtain⟨y,s⟩:=p
   rw[he]at ht
   have ht:(X.same y x&&wV d (@thU (L.ig fx) us) s1 s)=true:=ht
   simp only[aeI]at ht
   obtain rfl:=X.kG ht.1
   refine wp_mono (@Ph bL P (R.ctx (L.ig fx) f) 0 (hR.ty _ _) ⟨hR.sound _ _,JC hR.tb _⟩ hR.mixed R.n c (hL _ _) B hd s y r a w (Rel.aF b1 _ hr) he) λe a' w' ⟨h1,r',h2,h3,h4⟩=>?_
   obtain⟨k1,k2⟩:=yw (b1:=bL) (ag.aF _) (@Ue bL b2 us hus) ht.2 h2
   exact⟨h1,_,k1,k2 (Parts.ok hr).n hnx h3 (λl _ h=>absurd h (ag7 l)),h4⟩
def A.eqE (x y:A):Bool:=match x,y with | .s x,.s y=>x.eqb y| .g l,.g k=>iT S.eqb l k|_,_=>false
def V.eqE (x y:V):Bool:=match x,y with | .a x,.a y=>x.eqE y| .t l,.t k=>iT A.eqE l k|_,_=>false
theorem I5 {α:Type}{f:α->α->Bool}(hf:∀x y,f x y=true->x=y):∀{a b:List α},iT f a b=true->a=b
 |[],[],_=>rfl
 |x::a,y::b,h=>by
  simp only[iT,aeI]at h
  rw[hf x y h.1,I5 hf h.2]
 |[],_::_,h=>by cases h
 |_::_,[],h=>by cases h
theorem A.O1 {x y:A}(h:x.eqE y=true):x=y:=by
 unfold A.eqE at h
 split at h
 ·rw[S.ug h]
 ·rw[I5 (λ_ _=>S.ug) h]
 ·cases h
theorem V.O1 {x y:V}(h:x.eqE y=true):x=y:=by
 unfold V.eqE at h
 split at h
 ·rw[A.O1 h]
 ·rw[I5 (λ_ _=>A.O1) h]
 ·cases h
def abf (v:V)(r:Option (V×Heap)):Bool:=Option.rec false (λp=>V.eqE p.1 v) r
theorem Xe {v:V}{r:Option (V×Heap)}(h:abf v r=true):∃h',r=some (v,h'):=by
 cases r with
 |none=>cases h
 |some p=>
  obtain⟨v',h'⟩:=p
  have h:V.eqE v' v=true:=h
  rw[V.O1 h]
  exact⟨h',rfl⟩
def lu (R:Rig)(f:FuncId)(fx:Fx)(as:List (E×Bool))(es:List E)(g:List Bool->V)(args:List A)(L:Lf):Bool:=
 @IG (L.ig fx) as||Option.rec false (λbs=>abf (g bs) (@qR (L.ig fx) R.ty R.fn (R.lib (L.ig fx)) R.tb (R.loops (L.ig fx)) R.n R.d f args ⟨[],0⟩ 0)) (@yE (L.ig fx) es)
theorem jI {P:Program}{R:Rig}{f:FuncId}{b:Base}{w:World}(hnb:b.nb<=w.heap.size)(hg:∀k,k<b.nb->w.heap[k]? =b.g k)(hR:jJ P R b){L0:Lf}{hs:HT}{fx:Fx}{as:List (E×Bool)}{es:List E}{g:List Bool->V}{args:List A}{vs:List Value}
  (h0:L0.Holds b.rho b.sig) (hf:vJ fx b.rho) (has:∀p∈as,p.1.num b.rho=p.2) (ha:au (@VA b r0) args vs) (hrun:aG (lu R f fx as es g args) hs L0=true):
  Calls P f vs.toArray w λx w'=>∃u r,x=.returned u/\@VV b r (g (es.map (E.num b.rho))) u/\Below w.heap.size w w':=by
 obtain⟨L,hLh,ht⟩:=pI hrun h0
 unfold lu at ht
 rw[afJ]at ht
 let bL:Base:=b.aF (L.ig fx) (Lf.okX hLh hf)
 rcases ht with ht|ht
 ·rw[@AZ bL as has]at ht
  cases ht
 ·cases ha':@yE (L.ig fx) es with
  |none=>rw[ha']at ht;cases ht
  |some bs=>
   rw[ha']at ht
   obtain⟨h',hr⟩:=Xe ht
   have e:es.map (E.num b.rho)=bs:=@yQ bL _ _ ha'
   rw[e]
   exact @je bL P w hnb hg _ (hR.sound _ _) f _ _ ha _ h' hr
