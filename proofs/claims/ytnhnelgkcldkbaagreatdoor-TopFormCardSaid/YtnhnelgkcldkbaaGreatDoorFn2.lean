/- Loops over a function's lists as rows; whether there is too much of something: fnshape.large and pawnshopref07.many. -/
import Derived.Test.YtnhnelgkcldkbaaGreatDoorFn1
set_option linter.all false
set_option maxRecDepth 100000
noncomputable section
open Nat renaming beq → aia
namespace Go.Proofs.YtnhnelgkcldkbaaGreatDoor
namespace Am
open Go.RowKit
def bg:Know->FuncId->Loops:=λ_ _ _ _ _=>none
def dG (lib:Know->aU)(tb:Tabs)(lp:Know->FuncId->Loops):Rig:=⟨oq Tryz.prog,pJ Tryz.prog,lib,tb,lp,40,12⟩
def gU:Know->aU:=λ_=>wW
theorem fV {lib:Know->aU}{tb:Tabs}{lp:Know->FuncId->Loops}{b:Base}(hl:∀K (ok:aC K b.rho b.sig),@Sound (b.aF K ok) Tryz.prog (lib K))(ht:@bQ b tb)
  (hp:∀K (ok:aC K b.rho b.sig) f F c,Tryz.prog.funcs[f]? =some F->F.body=some c->Loops.ok (@aO (b.aF K ok) Tryz.prog (lp K f)) c):jJ Tryz.prog (dG lib tb lp) b:=
 ⟨λK ok=>@yJ (b.aF K ok) Tryz.prog,WA,hl,GV,ht,hp⟩
theorem jA {b:Base}(K:Know)(ok:aC K b.rho b.sig):@Sound (b.aF K ok) Tryz.prog (gU K):=λ_ _ _ _ _ _ h=>by cases h
theorem pR {b:Base}(K:Know)(ok:aC K b.rho b.sig)(f:FuncId)(F:Func)(c:Code)(_:Tryz.prog.funcs[f]? =some F)(_:F.body=some c):Loops.ok (@aO (b.aF K ok) Tryz.prog (bg K f)) c:=
 Loops.wJ (λc=>@aO.none (b.aF K ok) _ c) c
theorem OG {b:Base}(K:Know)(ok:aC K b.rho b.sig)(c:Code):Loops.ok (@aO (b.aF K ok) Tryz.prog (λ_ _ _=>none)) c:=Loops.wJ (λc=>@aO.none (b.aF K ok) _ c) c
theorem bF {b:Base}(f:FuncId)(c:Code):∀K (ok:aC K b.rho b.sig),Loops.ok (@aO (b.aF K ok) Tryz.prog (bg K f)) c:=λK ok=>OG K ok c
theorem bC {tb:Tabs}{b:Base}(ht:@bQ b tb):jJ Tryz.prog (dG gU tb bg) b:=fV jA ht pR
theorem a8n {P:Program}{bo:Base}{c e0:Code}{i tag:Nat}{d:Bd}{th:Th}{hd s1:St}{x:X}(hu:((gX c).map Code.tag).Nodup)(hi:nth (gX c) i=some e0)(htag:e0.tag=tag)(h:@aO bo P (jh tag d th hd x s1) e0):
  Loops.ok (@aO bo P (jh tag d th hd x s1)) c:=by
 refine Loops.a96 c λe he=>?_
 rw[aI]at hi
 obtain⟨hil,hie⟩:=aeU.1 hi
 rcases Decidable.em (e.tag=tag)with ht|ht
 ·obtain⟨j,hj,rfl⟩:=ahi he
  have:j=i:=by
   have h1:((gX c).map Code.tag)[j]'(by simpa using hj)=((gX c).map Code.tag)[i]'(by simpa using hil):=by
    simp only[List.getElem_map]
    rw[ht,hie,htag]
   exact(List.getElem_inj hu).1 h1
  subst this
  rw[hie]
  exact @h
 ·intro fl B s s' y r a w _ hl
  unfold jh at hl
  have:aia e.tag tag=false:=by
   cases hb:aia e.tag tag
   ·rfl
   ·exact absurd (aeX hb) ht
  rw[this]at hl
  cases hl
def XJ:List Nat->Bool
 |[]=>true
 |a::r=>(r.all λb=>!aia a b)&&XJ r
theorem Qr:∀{l:List Nat},XJ l=true->l.Nodup
 |[],_=>List.nodup_nil
 |a::r,h=>by
  simp only[XJ,aeI]at h
  refine List.nodup_cons.2 ⟨λhm=>?_,Qr h.2⟩
  have:=aeV.1 h.1 a hm
  rw[Nat.beq_refl]at this
  cases this
def fU (c:Code)(i tag:Nat):Bool:=XJ ((gX c).map Code.tag)&&Option.rec false (λe=>aia e.tag tag) (nth (gX c) i)
theorem rD {P:Program}{bo:Base}{c:Code}{i tag:Nat}{d:Bd}{th:Th}{hd s1:St}{x:X}(ht:fU c i tag=true)(h:@aO bo P (jh tag d th hd x s1) ((nth (gX c) i).getD .skip)):Loops.ok (@aO bo P (jh tag d th hd x s1)) c:=by
 unfold fU at ht
 simp only[aeI]at ht
 cases hn:nth (gX c) i with
 |none=>rw[hn]at ht;cases ht.2
 |some e=>
  rw[hn]at ht h
  exact a8n (Qr ht.1) hn (aeX ht.2) h
theorem iH {P:Program}{bo:Base}{F:Func}{i tag:Nat}{d:Bd}{th:Th}{hd s1:St}{x:X}(ht:fU (F.body.getD .skip) i tag=true)(h:@aO bo P (jh tag d th hd x s1) (dZ F i)){c:Code}(hc:F.body=some c):Loops.ok (@aO bo P (jh tag d th hd x s1)) c:=by
 have e:dZ F i=(nth (gX c) i).getD .skip:=by unfold dZ;rw[hc]
 rw[hc]at ht
 exact rD ht (by rw[<-e];exact h)
structure gY (P:Program)(b1 b2:Base)(c:Code)(hd:St)(x:X)(s1:St):Prop where
 go:∀(r:Ren) (B:Nat) (a:Act) (w:World),@Rel b1 hd r B a w->c.wp P (Goes b2 B hd.h r a w x s1) a w
theorem yR {P:Program}{bo:Base}{bk:Nat->Base}{c:Code}{d:Bd}{th:Th}{hd s1:St}{x:X}(hx:x≠.normal){N:Nat}(ag:Agree bo (bk 0) d)(ht:Th.ok bo (bk 0) th)
  (step:∀k,k<N->gY P (bk k) (bk (k+1)) c hd .normal hd) (last:gY P (bk N) bo c hd x s1) (tag:Nat) (K:Know) (ok:aC K bo.rho bo.sig):@aO (bo.aF K ok) P (jh tag d th hd x s1) c:=
 Nz (bo:=bo.aF K ok) (b:=bk) hx (ag.aF ok) ht (λk hk {r B a w} hr=>(step k hk).go r B a w hr) (Turns.aF (λ{r B a w} hr=>last.go r B a w hr) ok) tag
def iP (n:Nat)(l:List (Nat×S)):Fr:=l.foldl (λfr p=>upd fr p.1 (V.s p.2)) (List.replicate n V.any)
def bM (F:FuncId)(vs:List Value)(w:World)(u:Value):Prop:=Calls Tryz.prog F vs.toArray w λe w'=>e=.returned u/\Below w.heap.size w w'
theorem bM.of {F:FuncId}{vs:List Value}{w:World}{b:Base}{v:V}{u:Value}(hu:∀r x,@VV b r v x->x=u)(h:Calls Tryz.prog F vs.toArray w λx w'=>∃u r,x=.returned u/\@VV b r v u/\Below w.heap.size w w'):bM F vs w u:=
 h.mono λe w' ⟨x,r,e1,e2,e3⟩=>⟨by rw[e1,hu r x e2],e3⟩
theorem dn {P:Program}{bo:Base}{bk:Nat->Base}{c:Code}{d:Bd}{us:List Upd}{hd s1:St}{x:X}(hx:x≠.normal){N:Nat}(ag:Agree bo (bk 0) d)(hu:∀u∈us,iQ bo (bk 0) u)
  (step:∀k,k<N->gY P (bk k) (bk (k+1)) c hd .normal hd) (last:gY P (bk N) bo c hd x s1) (tag:Nat) (K:Know) (ok:aC K bo.rho bo.sig):@aO (bo.aF K ok) P (jh tag d (@thU K us) hd x s1) c:=
 Nz (bo:=bo.aF K ok) (b:=bk) hx (ag.aF ok) (@Ue (bo.aF K ok) (bk 0) us hu) (λk hk {r B a w} hr=>(step k hk).go r B a w hr) (Turns.aF (λ{r B a w} hr=>last.go r B a w hr) ok) tag
theorem bI {w:World}{D:FnD}{f:FuncId}{lib:Know->aU}{tb:Tabs}{lp:Know->FuncId->Loops}{giv:List (E×Bool)}{us:List Upd}{d:Bd}{c:Code}{hd s1:St}{x:X}{hs:HT}{L:Lf}{q q':At}{m m':List Int}{fx:Fx}
  (hrun:aG (dQ (dG lib tb lp) f fx giv us d c hd x s1) hs L=true) (hR:jJ Tryz.prog (dG lib tb lp) (fnB w D q m)) (ag:Agree (fnB w D q m) (fnB w D q' m') d) (hL:L.Holds (aA (aH D q m)) (λ_=>[])) (hf:vJ fx (aA (aH D q m))) (hg:∀p∈giv,p.1.num (aA (aH D q m))=p.2)
  (hus:∀u∈us,iQ (fnB w D q m) (fnB w D q' m') u) (hnx:hd.h.next=s1.h.next) (hlp:∀K (ok:aC K (fnB w D q m).rho (fnB w D q m).sig),Loops.ok (@aO ((fnB w D q m).aF K ok) Tryz.prog (lp K f)) c):gY Tryz.prog (fnB w D q m) (fnB w D q' m') c hd x s1:=by
 refine⟨λr B a w1 hr=>?_⟩
 exact En hR ag hnx hL hf hg hus hlp hrun hr
theorem rows_ok {bo:Base}{T:Know->List (FuncId×Loops)}(h:∀K (ok:aC K bo.rho bo.sig),∀p∈T K,∃F:Func,Tryz.prog.funcs[p.1]? =some F/\∀c,F.body=some c->Loops.ok (@aO (bo.aF K ok) Tryz.prog p.2) c):
  ∀K (ok:aC K bo.rho bo.sig) g G c,Tryz.prog.funcs[g]? =some G->G.body=some c->Loops.ok (@aO (bo.aF K ok) Tryz.prog (dV (T K) g)) c:=by
 intro K ok
 refine @Di Tryz.prog (bo.aF K ok) (T K) λp hp G c hG hc=>?_
 obtain⟨F,hF,hk⟩:=h K ok p hp
 obtain rfl:F=G:=afE (hF.symm.trans hG)
 exact hk c hc
theorem qQ {b:Base}{f:FuncId}{F:Func}{c cc:Code}{T:List (FuncId×Loops)}(h:∀p∈T,p.1=f->Loops.ok (@aO b Tryz.prog p.2) c):Loops.ok (@aO b Tryz.prog (dV T f)) c:=by
 induction T with
 |nil=>exact Loops.wJ (λc=>by intro fl B s s' x r a w _ hl;cases hl) c
 |cons p T ih=>
  have ih:=ih λq hq=>h q (afd _ hq)
  cases hb:aia p.1 f with
  |false=>
   refine Loops.Gl (λc hQ=>?_) c ih
   intro fl B s s' x r a w hr hl
   have hl:(bif aia p.1 f then Pg (p.2 c.tag fl s) (dV T f c.tag fl s)else dV T f c.tag fl s)=some (x,s'):=hl
   rw[hb]at hl
   exact hQ hr hl
  |true=>
   refine Loops.Gl (λc hQ=>?_) c (Loops.a2l c (h p (afh ..) (aeX hb)) ih)
   intro fl B s s' x r a w hr hl
   have hl:(bif aia p.1 f then Pg (p.2 c.tag fl s) (dV T f c.tag fl s)else dV T f c.tag fl s)=some (x,s'):=hl
   rw[hb]at hl
   exact aO.or hQ.1 hQ.2 hr hl
theorem jM {w:World}{v:Value}{D:FnD}(h:aZ w v D){f:FuncId}{R:Rig}{q:At}{m:List Int}{L0:Lf}{hs:HT}{fx:Fx}{giv:List (E×Bool)}{es:List E}{g:List Bool->V}{u:Value}(hrun:aG (lu R f fx giv es g [.g bK]) hs L0=true)(hR:jJ Tryz.prog R (fnB w D q m))(hL:L0.Holds (aA (aH D q m)) (λ_=>[]))(hf:vJ fx (aA (aH D q m)))
  (hg:∀p∈giv,p.1.num (aA (aH D q m))=p.2) (e:∀r x,@VV (fnB w D q m) r (g (es.map (E.num (aA (aH D q m))))) x->x=u):bM f [v] w u:=
 bM.of (b:=fnB w D q m) e (jI (b:=fnB w D q m) (w:=w) (aeM _) (λ_ _=>rfl) hR hL hf hg (show au (@VA (fnB w D q m) r0) [.g bK] [v]from⟨wF h q m r0,trivial⟩) hrun)
theorem one_row {bo:Base}{f:FuncId}{F:Func}{row:Loops}(hF:Tryz.prog.funcs[f]? =some F)(h:∀K (ok:aC K bo.rho bo.sig) c,F.body=some c->Loops.ok (@aO (bo.aF K ok) Tryz.prog row) c):
  ∀K (ok:aC K bo.rho bo.sig) g G c,Tryz.prog.funcs[g]? =some G->G.body=some c->Loops.ok (@aO (bo.aF K ok) Tryz.prog (dV [(f,row)] g)) c:=by
 intro K ok
 refine @Di Tryz.prog (bo.aF K ok) [(f,row)] λp hp G c hG hc=>?_
 obtain rfl:=aeR.1 hp
 obtain rfl:F=G:=afE (hF.symm.trans hG)
 exact h K ok c hc
theorem jU (p:Nat->Bool):∀n,(∀i,i<n->p i=true)\/∃N,N<n/\(∀i,i<N->p i=true)/\p N=false
 |0=>.inl λ_ h=>absurd h (ag7 _)
 |n+1=>by
  rcases jU p n with h|⟨N,h1,h2⟩
  ·cases hc:p n
   ·exact .inr ⟨n,by omega,h,hc⟩
   ·exact .inl λi hi=>by
     rcases afp i n with h'|h'
     ·exact h i h'
     ·obtain rfl:i=n:=by omega
      exact hc
  ·exact .inr ⟨N,by omega,h2⟩
theorem iW {α:Type}(l:List α)(d:α)(p:α->Bool):(∀i,i<l.length->p (l.getD i d)=true)↔l.all p=true:=by
 rw[aeV]
 constructor
 ·intro h x hx
  obtain⟨i,hi⟩:=afD hx
  have hl:=(aeU.1 hi).1
  have:=h i hl
  rw[af8,hi]at this
  exact this
 ·intro h i hi
  rw[af8,aeK hi]
  exact h _ (agl hi)
def atB (i:Nat):At:=⟨i,0,0,0⟩
def atT (t:Nat):At:=⟨0,0,0,t⟩
theorem a3m {b1 b2:Base}{y x:S}(h:∀r v,@VS b1 r x v->@VS b2 r y v):Th.ok b1 b2 [(y,x)]:=λp hp r v hv=>by
 obtain rfl:=aeR.1 hp
 exact h r v hv
theorem iL {D:FnD}{q:At}(h:q.i<=1000/\q.k<=1000/\q.m<=1000/\q.t<=1000):Fits D q:=⟨by omega,by omega,by omega,by omega⟩
theorem fD {D:FnD}{i:Nat}(h:i<=1000):Fits D (atB i):=iL ⟨h,afb _,afb _,afb _⟩
theorem Ib {D:FnD}{t:Nat}(h:t<=1000):Fits D (atT t):=iL ⟨afb _,afb _,afb _,h⟩
end Am
namespace many
open Go.RowKit Am
def jq (D:FnD):Bool:=decide (16<D.ls.length)||(decide (24<D.bs.length)||!(D.bs.all λb=>decide (b.st.length<=24)))
def fA:FuncId:=104
def fB:FuncId:=89
def iR:Code:=dZ Tryz.f104 0
def hdA:St:=⟨iP Tryz.f104.ntmps [(16,.rv 1),(17,.xi .i64 3),(18,.xi .i64 4)],⟨[],1⟩⟩
def sN (n:Nat):St:=⟨iP n [],⟨[],1⟩⟩
def sR (n:Nat):St:=⟨iP n [(2,.bool true)],⟨[],1⟩⟩
def mX:Code:=dZ Tryz.f89 0
def hdB:St:=⟨iP Tryz.f89.ntmps [(1,.ptr 0 0),(3,.xi .i64 4)],⟨[(0,⟨bK,true⟩)],1⟩⟩
def nA:Nat:=Tryz.f104.ntmps
def nB:Nat:=Tryz.f89.ntmps
def L1:Lf:=((Lf.of (eH++[])).pin 6 1).hi 7 24
def L2:Lf:=((Lf.of (eH++[])).pin 6 1).lo 7 25
def L3:Lf:=(Lf.of (eH++[])).pin 6 0
def next:List Upd:=[isU (.xi .i64 4) (.xi .i64 5)]
def test (f:FuncId)(tb:Tabs)(us:List Upd)(c:Code)(hd:St)(x:X)(s1:St):Lf->Bool:=dQ (dG gU tb bg) f dW [] us ⟨4,0,3⟩ c hd x s1
theorem CJ:aG (test fA (cu.app iJ) next iR hdA .normal hdA) .leaf L1=true:=by kernel_rfl
theorem ae2:aG (test fA (cu.app iJ) [] iR hdA .ret (sR nA)) .leaf L2=true:=by kernel_rfl
theorem aek:aG (test fA cu [] iR hdA (.exit 0) (sN nA)) .leaf L3=true:=by kernel_rfl
theorem a1W:aG (test fB (cu.app iJ) next mX hdB .normal hdB) .leaf L1=true:=by kernel_rfl
theorem aaM:aG (test fB (cu.app iJ) [] mX hdB .ret (sR nB)) .leaf L2=true:=by kernel_rfl
theorem aeF:aG (test fB cu [] mX hdB (.exit 0) (sN nB)) .leaf L3=true:=by kernel_rfl
def th0:Th:=[(.xi .i64 4,.int .i64 0)]
def zo (tag:Nat)(hd:St)(x:X)(s1:St):Loops:=jh tag ⟨4,0,3⟩ th0 hd x s1
def LS:Lf:=((Lf.of (eH++[])).hi 2 16).hi 3 24
def LG:Lf:=Lf.of (eH++[])
def small:E:=.and (.lt 2 17) (.lt 3 25)
def run (f:FuncId)(lp:Know->FuncId->Loops)(giv:List (E×Bool))(b:Bool):Lf->Bool:=lu (dG gU cu lp) f dW giv [] (λ_=>V.s (.bool b)) [.g bK]
theorem Zn:aG (run fA (λ_=>dV [(fA,zo 5 hdA (.exit 0) (sN nA))]) [] false) .leaf LS=true:=by kernel_rfl
theorem a1M:aG (run fA (λ_=>dV [(fA,zo 5 hdA .ret (sR nA))]) [] true) .leaf LS=true:=by kernel_rfl
theorem a1J:aG (run fA bg [(small,false)] true) (.of [⟨false,2,17⟩,⟨false,3,25⟩]) LG=true:=by kernel_rfl
theorem Yl:aG (run fB (λ_=>dV [(fB,zo 5 hdB (.exit 0) (sN nB))]) [] false) .leaf LS=true:=by kernel_rfl
theorem a4O:aG (run fB (λ_=>dV [(fB,zo 5 hdB .ret (sR nB))]) [] true) .leaf LS=true:=by kernel_rfl
theorem a0N:aG (run fB bg [(small,false)] true) (.of [⟨false,2,17⟩,⟨false,3,25⟩]) LG=true:=by kernel_rfl
theorem OU:fU (Tryz.f104.body.getD .skip) 0 5=true:=by kernel_rfl
theorem abd:fU (Tryz.f89.body.getD .skip) 0 5=true:=by kernel_rfl
section
variable {w:World} {v:Value} {D:FnD} (h:aZ w v D)
include h
theorem start (q:At)(hq:Fits D q):(Lf.of (eH++[])).Holds (aA (aH D q ([]++[]))) (λ_=>[]):=lC h hq (iv:=[]) (m1:=[]) (m2:=[]) trivial _
theorem turn {f:FuncId}{tb:Tabs}{us:List Upd}{c:Code}{hd s1:St}{x:X}{L:Lf}{q q':At}(ht:@bQ (fnB w D q []) tb)(hL:L.Holds (aA (aH D q [])) (λ_=>[]))(hus:∀u∈us,iQ (fnB w D q []) (fnB w D q' []) u)(hnx:hd.h.next=s1.h.next)
  (hrun:aG (test f tb us c hd x s1) .leaf L=true):gY Tryz.prog (fnB w D q []) (fnB w D q' []) c hd x s1:=by
 refine⟨λr B a w1 hr=>?_⟩
 exact En (bC ht) (bJ q q' [] []) hnx hL (aK D q []) (λp hp=>by cases hp) hus (λK ok=>OG K ok c) hrun hr
theorem row {f:FuncId}{c:Code}{hd:St}{n:Nat}(hnx:hd.h.next=1)(hB:D.bs.length<=24)(h1:aG (test f (cu.app iJ) next c hd .normal hd) .leaf L1=true)(h2:aG (test f (cu.app iJ) [] c hd .ret (sR n)) .leaf L2=true)(h3:aG (test f cu [] c hd (.exit 0) (sN n)) .leaf L3=true)
  {b:Bool} (hb:(D.bs.all λb=>decide (b.st.length<=24))=b) (tag:Nat) (K:Know) (ok:aC K (fnB w D (atB 0) []).rho (fnB w D (atB 0) []).sig):
  @aO ((fnB w D (atB 0) []).aF K ok) Tryz.prog (zo tag hd (if b then .exit 0 else .ret) (if b then sN n else sR n)) c:=by
 have hstep:∀k,k<D.bs.length->(D.blk k).st.length<=24->gY Tryz.prog (fnB w D (atB k) []) (fnB w D (atB (k+1)) []) c hd .normal hd:=λk hk hl=>by
  refine turn h (@aX (fnB w D (atB k) []) cu iJ (aS h _ _) (dN h (q:=atB k) hk _)) (L:=L1) ?_ (λu hu=>?_) rfl h1
  ·exact((start h (atB k) (fD (by omega))).pin (i:=6) (c:=1) (show b2i (decide ((k:Int)<D.bs.length))=1 from(dh _).2 (by omega))).hi (i:=7) (c:=24) (show((D.blk k).st.length:Int)<=24 by omega)
  ·obtain rfl:=aeR.1 hu
   exact dM λr v hv=>hv
 have hend:gY Tryz.prog (fnB w D (atB D.bs.length) []) (fnB w D (atB 0) []) c hd (.exit 0) (sN n):=
  turn h (aS h _ _) (L:=L3) ((start h (atB D.bs.length) (fD (by omega))).pin (i:=6) (c:=0) (show b2i (decide ((D.bs.length:Int)<D.bs.length))=0 by rw[af2 (by omega)];rfl)) (λu hu=>by cases hu) (by rw[hnx];rfl) h3
 have hth:Th.ok (fnB w D (atB 0) []) (fnB w D (atB 0) []) th0:=a3m λr v hv=>hv
 have hat:∀i,i<D.bs.length->(decide ((D.blk i).st.length<=24)=true↔(D.blk i).st.length<=24):=λi _=>ag8
 cases b with
 |true=>
  have hall:=(iW D.bs b0 λb=>decide (b.st.length<=24)).2 hb
  exact @yR _ _ (λk=>fnB w D (atB k) []) c _ _ hd _ _ (λe=>by cases e) D.bs.length (bJ _ _ [] []) hth (λk hk=>hstep k hk ((hat k hk).1 (hall k hk))) hend tag K ok
 |false=>
  rcases jU (λi=>decide ((D.blk i).st.length<=24)) D.bs.length with hall|⟨N,hN,h0,hn⟩
  ·rw[(iW D.bs b0 λb=>decide (b.st.length<=24)).1 hall]at hb
   cases hb
  ·refine @yR _ _ (λk=>fnB w D (atB k) []) c _ _ hd _ _ (λe=>by cases e) N (bJ _ _ [] []) hth (λk hk=>hstep k (by omega) ((hat k (by omega)).1 (h0 k hk))) ?_ tag K ok
   refine turn h (@aX (fnB w D (atB N) []) cu iJ (aS h _ _) (dN h (q:=atB N) hN _)) (L:=L2) ?_ (λu hu=>by cases hu) (by rw[hnx];rfl) h2
   have hn:¬(D.blk N).st.length<=24:=of_decide_eq_false hn
   exact((start h (atB N) (fD (by omega))).pin (i:=6) (c:=1) (show b2i (decide ((N:Int)<D.bs.length))=1 from(dh _).2 (by omega))).lo (i:=7) (c:=25) (show(25:Int)<=((D.blk N).st.length:Int)by omega)
theorem Yg (q:At):small.num (aA (aH D q []))=(decide (D.ls.length<=16)&&decide (D.bs.length<=24)):=by
 show(decide ((D.ls.length:Int)<17)&&decide ((D.bs.length:Int)<25))=_
 congr 1<;>exact afG.2 (by omega)
theorem ans {f:FuncId}{F:Func}{n:Nat}{hd:St}(hF:Tryz.prog.funcs[f]? =some F)(hnx:hd.h.next=1)(ht:fU (F.body.getD .skip) 0 5=true)
  (h1:aG (test f (cu.app iJ) next (dZ F 0) hd .normal hd) .leaf L1=true) (h2:aG (test f (cu.app iJ) [] (dZ F 0) hd .ret (sR n)) .leaf L2=true) (h3:aG (test f cu [] (dZ F 0) hd (.exit 0) (sN n)) .leaf L3=true)
  (g1:aG (run f (λ_=>dV [(f,zo 5 hd (.exit 0) (sN n))]) [] false) .leaf LS=true) (g2:aG (run f (λ_=>dV [(f,zo 5 hd .ret (sR n))]) [] true) .leaf LS=true) (g3:aG (run f bg [(small,false)] true) (.of [⟨false,2,17⟩,⟨false,3,25⟩]) LG=true):
  bM f [v] w (.bool (jq D)):=by
 have hst:=start h (atB 0) (fD (by omega))
 have hval:au (@VA (fnB w D (atB 0) []) r0) [.g bK] [v]:=⟨wF h (atB 0) [] r0,trivial⟩
 by_cases hs:D.ls.length<=16/\D.bs.length<=24
 ·have hLS:LS.Holds (aA (aH D (atB 0) [])) (λ_=>[]):=(hst.hi (i:=2) (c:=16) (show(D.ls.length:Int)<=16 by omega)).hi (i:=3) (c:=24) (show(D.bs.length:Int)<=24 by omega)
  have hm:jq D=!(D.bs.all λb=>decide (b.st.length<=24)):=by
   unfold jq
   rw[af2 (by omega),af2 (by omega)]
   rfl
  have hrow:=λ{b:Bool} (hb:(D.bs.all λb=>decide (b.st.length<=24))=b)=>one_row (bo:=fnB w D (atB 0) []) (row:=zo 5 hd (if b then .exit 0 else .ret) (if b then sN n else sR n)) hF λK ok c hc=>iH ht (row h hnx hs.2 h1 h2 h3 hb 5 K ok) hc
  rw[hm]
  cases hb:(D.bs.all λb=>decide (b.st.length<=24))with
  |true=>exact bM.of (b:=fnB w D (atB 0) []) (v:=V.s (.bool false)) (λr x hx=>hx) (jI (b:=fnB w D (atB 0) []) (w:=w) (aeM _) (λ_ _=>rfl) (fV jA (aS h _ _) (hrow hb)) hLS (aK D _ _) (λp hp=>by cases hp) hval g1)
  |false=>exact bM.of (b:=fnB w D (atB 0) []) (v:=V.s (.bool true)) (λr x hx=>hx) (jI (b:=fnB w D (atB 0) []) (w:=w) (aeM _) (λ_ _=>rfl) (fV jA (aS h _ _) (hrow hb)) hLS (aK D _ _) (λp hp=>by cases hp) hval g2)
 ·have hm:jq D=true:=by
   unfold jq
   by_cases h16:16<D.ls.length
   ·rw[afn h16];rfl
   ·rw[af2 h16,afn (by omega)];rfl
  rw[hm]
  refine bM.of (b:=fnB w D (atB 0) []) (v:=V.s (.bool true)) (λr x hx=>hx) (jI (b:=fnB w D (atB 0) []) (w:=w) (aeM _) (λ_ _=>rfl) (bC (aS h _ _)) hst (aK D _ _) (λp hp=>?_) hval g3)
  obtain rfl:=aeR.1 hp
  show small.num _=false
  rw[show(fnB w D (atB 0) []).rho=aA (aH D (atB 0) [])from rfl,Yg h,Bool.and_eq_false_iff]
  by_cases h16:D.ls.length<=16
  ·exact .inr (af2 (by omega))
  ·exact .inl (af2 h16)
theorem Yj:bM fA [v] w (.bool (jq D)):=ans h Tryz.func104 rfl OU CJ ae2 aek Zn a1M a1J
theorem Q8:bM fB [v] w (.bool (jq D)):=ans h Tryz.func89 rfl abd a1W aaM aeF Yl a4O a0N
