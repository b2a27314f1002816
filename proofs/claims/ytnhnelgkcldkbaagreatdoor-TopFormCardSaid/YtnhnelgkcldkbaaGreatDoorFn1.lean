/- A function among the arguments: its data, numbers and lists behind a call with it, and the tables of its elements. (No program in sight.) -/
import Derived.Test.YtnhnelgkcldkbaaGreatDoorTwinA
set_option linter.all false
set_option maxRecDepth 100000
open Nat renaming beq → aia
namespace Go.Proofs.YtnhnelgkcldkbaaGreatDoor
namespace Am
open Go.RowKit Go.Deep
abbrev zk:List Kd:=.i .u8::([.i .i64,.b,.i .u8]++((.i .u8::.i .u8::.i .u8::([.i .u8,.i .i64,.i .i64,.b,.i .u8]++([.i .u8,.i .i64,.i .i64,.b,.i .u8]++[.i .i64,.b,.i .u8])))++([.i .u8,.i .i64,.i .i64,.b,.i .u8]++[.i .i64])))
structure bU where
 s:Value
 pre:List Value
 a:Value
 post:List Value
 st:List (List Value)
 ops:List (List Value)
def bU.cells (b:bU):List Value:=b.s::(b.pre++b.a::b.post)
structure FnD where
 p:Int
 u:Bool
 lv:Value
 bv:Value
 ls:List (List Value)
 bs:List bU
 xl:a5n
structure jV (w:World)(b:bU):Prop where
 sts:bT w b.s 26 b.st
 skd:∀st∈b.st,au Kd.ok zk st
 rJ:au Kd.ok qM b.pre
 opl:bT w b.a 5 b.ops
 okd:∀o∈b.ops,au Kd.ok opK o
 mZ:au Kd.ok kW b.post
structure aZ (w:World)(v:Value)(D:FnD):Prop where
 eq:v=.agg #[.int .i64 D.p,.bool D.u,D.lv,D.bv]
 pk:Kd.ok (.i .i64) (.int .i64 D.p)
 locals:bT w D.lv 2 D.ls
 lkd:∀t∈D.ls,au Kd.ok [.i .u8,.i .u8] t
 blocks:bT w D.bv 14 (D.bs.map bU.cells)
 blk:∀b∈D.bs,jV w b
theorem XQ {w:World}:∀{bs:List (List Value)},(∀b∈bs,∃s pre a post stmts ops,a3q w zk b s pre a post stmts ops)->∃l:List bU,bs=l.map bU.cells/\∀b∈l,jV w b
 |[],_=>⟨[],rfl,λ_ h=>by cases h⟩
 |b::bs,h=>by
  obtain⟨s,pre,a,post,stmts,ops,k⟩:=h b (by simp)
  obtain⟨l,e,hl⟩:=XQ (bs:=bs) λx hx=>h x (afd _ hx)
  refine⟨⟨s,pre,a,post,stmts,ops⟩::l,by rw[e,afr,bU.cells,k.eq],λx hx=>?_⟩
  rcases aeQ.1 hx with rfl|hx
  ·exact⟨k.sts,k.skd,k.rJ,k.opl,k.okd,k.mZ⟩
  ·exact hl x hx
theorem aZ.of {w:World}{v:Value}{p:Int}{u:Bool}{lv bv:Value}{ls bs:List (List Value)}(h:a5h w zk v p u lv bv ls bs):∃D,aZ w v D:=by
 obtain⟨l,e,hl⟩:=XQ h.blk
 exact⟨⟨p,u,lv,bv,ls,l,⟨.slice none 0 0,[]⟩⟩,h.eq,h.pk,h.locals,h.lkd,e▸h.blocks,hl⟩
theorem aZ.frz {w w':World}{v:Value}{D:FnD}(h:aZ w v D)(hw:∀k,k<w.heap.size->w'.heap[k]? =w.heap[k]?):aZ w' v D:=
 ⟨h.eq,h.pk,h.locals.frz hw,h.lkd,h.blocks.frz hw,λb hb=>⟨(h.blk b hb).sts.frz hw,(h.blk b hb).skd,(h.blk b hb).rJ,(h.blk b hb).opl.frz hw,(h.blk b hb).okd,(h.blk b hb).mZ⟩⟩
def b0:bU:=⟨.slice none 0 0,[],.slice none 0 0,[],[],[]⟩
def FnD.blk (D:FnD)(i:Nat):bU:=D.bs.getD i b0
def FnD.stm (D:FnD)(i k:Nat):List Value:=(D.blk i).st.getD k []
def FnD.opd (D:FnD)(i m:Nat):List Value:=(D.blk i).ops.getD m []
def FnD.typ (D:FnD)(t:Nat):List Value:=D.ls.getD t []
structure At where
 i:Nat
 k:Nat
 m:Nat
 t:Nat
def rQ (n:Nat)(l:List Value):List Int:=(List.range n).map (ah l)
def nG (a b:Int):Int:=b2i (decide (a<b))
def acf (a b:Int):Int:=b2i (decide (a=b))
def zl (D:FnD):List Int:=[D.p,b2i D.u,D.ls.length,D.bs.length]
def VN (b:bU)(i n:Nat):List Int:=[(i:Int),(i:Int)+1,nG i n,b.st.length]++(rQ 9 b.pre++((b.ops.length:Int)::rQ 3 b.post))
def Il (z:Nat)(l:List Value)(k n:Nat):List Int:=(k:Int)::((k:Int)+1)::nG k n::rQ z l
def abm (p nL nB:Int)(st:List Value)(b:bU)(op:List Value):List Int:=
 [nG (ah st 25) nL,nG (ah st 1) nL,nG (ah st 9) nL,nG (ah st 14) nL,nG (ah st 17) nL,nG (ah st 22) nL,
  nG (ah b.pre 3) nL,nG (ah b.post 0) nL,nG (ah op 2) nL,nG (ah b.pre 7) nB,nG (ah b.pre 8) nB,acf (ah b.pre 7) (ah b.pre 8),acf (ah st 17) (ah st 1),nG p nL]
def xsB (D:FnD)(q:At):List Int:=VN (D.blk q.i) q.i D.bs.length
def xsS (D:FnD)(q:At):List Int:=Il 26 (D.stm q.i q.k) q.k (D.blk q.i).st.length
def xsO (D:FnD)(q:At):List Int:=Il 5 (D.opd q.i q.m) q.m (D.blk q.i).ops.length
def xsT (D:FnD)(q:At):List Int:=Il 2 (D.typ q.t) q.t D.ls.length
def xsC (D:FnD)(q:At):List Int:=abm D.p D.ls.length D.bs.length (D.stm q.i q.k) (D.blk q.i) (D.opd q.i q.m)
def aH (D:FnD)(q:At)(more:List Int):List Int:=zl D++(xsB D q++(xsS D q++(xsO D q++(xsT D q++(xsC D q++more)))))
def a6t (D:FnD)(q:At):List a5n:=[⟨D.lv,D.ls⟩,⟨D.bv,D.bs.map bU.cells⟩,D.xl,⟨(D.blk q.i).s,(D.blk q.i).st⟩,⟨(D.blk q.i).a,(D.blk q.i).ops⟩]
def fnE (w:World)(D:FnD)(q:At)(more:List Int):Env:=⟨w,aH D q more,a6t D q⟩
abbrev fnB (w:World)(D:FnD)(q:At)(more:List Int):Base:=(fnE w D q more).b
def ivN:Int×Int:=(0,9223372036854775807)
def ivB:Int×Int:=(0,1)
def ivE (ks:List Kd):List (Int×Int):=ivN::ivN::ivB::ks.map Kd.iv
def eH:List (Int×Int):=[Kd.iv (.i .i64),ivB,ivN,ivN]++(([ivN,ivN,ivB,ivN]++(qM.map Kd.iv++(ivN::kW.map Kd.iv)))++(ivE zk++(ivE opK++(ivE [.i .u8,.i .u8]++List.replicate 14 ivB))))
def dW:Fx:=⟨[],⟨[(4,3,6),(21,7,23),(50,17,52),(58,2,60),(49,2,63),(25,2,64),(33,2,65),(38,2,66),(41,2,67),(46,2,68),(11,2,69),(18,2,70),(55,2,71),(15,3,72),(16,3,73),(0,2,76)],[],[],[],[(15,16,74),(41,25,75)]⟩⟩
theorem VI {a b c:List Int}{i:Nat}(h:i<a.length):aA (a++b) i=aA (a++c) i:=by
 unfold aA
 rw[af8,af8,af5 h,af5 h]
theorem kR {a b:List Int}{n j:Nat}(h:a.length=n):aA (a++b) (n+j)=aA b j:=by
 unfold aA
 rw[af8,af8,af7 (by omega),show n+j-a.length=j by omega]
section
variable {w:World} {D:FnD}
theorem eu {D:FnD}{q:At}{more:List Int}(j:Nat):aA (aH D q more) (77+j)=aA more j:=by
 have e:aH D q more=(zl D++(xsB D q++(xsS D q++(xsO D q++(xsT D q++xsC D q)))))++more:=by simp[aH]
 rw[e]
 exact kR rfl
theorem dh (q:Prop)[Decidable q]:b2i (decide q)=1↔q:=by
 by_cases h:q
 ·rw[afn h];exact⟨λ_=>h,λ_=>rfl⟩
 ·rw[af2 h];exact⟨λk=>absurd k (by decide),λk=>absurd k h⟩
theorem aK (D:FnD)(q:At)(more:List Int):vJ dW (aA (aH D q more)):=by
 refine⟨λ_ _ _ h=>(by cases h),λi j d h=>?_,λ_ _ _ h=>(by cases h),λ_ _ _ h=>(by cases h),λ_ _ _ _ h=>(by cases h),λi j d h=>?_⟩
 ·simp only[dW,aeQ,aeZ,afj,agf]at h
  rcases h with⟨rfl,rfl,rfl⟩|⟨rfl,rfl,rfl⟩|⟨rfl,rfl,rfl⟩|⟨rfl,rfl,rfl⟩|⟨rfl,rfl,rfl⟩|⟨rfl,rfl,rfl⟩|⟨rfl,rfl,rfl⟩|⟨rfl,rfl,rfl⟩|⟨rfl,rfl,rfl⟩|⟨rfl,rfl,rfl⟩|⟨rfl,rfl,rfl⟩|⟨rfl,rfl,rfl⟩|⟨rfl,rfl,rfl⟩|⟨rfl,rfl,rfl⟩|⟨rfl,rfl,rfl⟩|⟨rfl,rfl,rfl⟩<;>exact dh _
 ·simp only[dW,aeQ,aeZ,afj,agf]at h
  rcases h with⟨rfl,rfl,rfl⟩|⟨rfl,rfl,rfl⟩<;>exact dh _
def InI (p:Int×Int)(m:Int):Prop:=p.1<=m/\m<=p.2
theorem gq {α β:Type}{R:α->β->Prop}:∀{a:List α} {b:List β} {c:List α} {d:List β},au R a b->au R c d->au R (a++c) (b++d)
 |[],[],_,_,_,h=>h
 |_::_,_::_,_,_,h,k=>⟨h.1,gq h.2 k⟩
 |[],_::_,_,_,h,_=>h.elim
 |_::_,[],_,_,h,_=>h.elim
theorem sG (b:Bool):InI ivB (b2i b):=by cases b<;>exact⟨by decide,by decide⟩
theorem Ou {ks:List Kd}{l:List Value}(h:au Kd.ok ks l\/l=[])(hk:(ks.all λk=>decide (k.iv.1<=0)&&decide (0<=k.iv.2))=true){n:Nat}(hn:ks.length=n):au InI (ks.map Kd.iv) (rQ n l):=by
 subst hn
 refine fZ (by simp[rQ]) λi p m hp hm=>?_
 rw[aeT]at hp
 obtain⟨k,hk1,rfl⟩:=afV.1 hp
 have hi:=(aeU.1 hk1).1
 unfold rQ at hm
 rw[aeT,afH hi]at hm
 cases hm
 rcases h with h|rfl
 ·have hl:=h.len
  obtain⟨v,hv⟩:∃v,l[i]? =some v:=⟨_,aeK (by omega)⟩
  obtain⟨v',hv',ok⟩:=au.nth h (n:=i) (x:=k) (by rw[aI];exact hk1)
  have e:ah l i=bD v':=by unfold ah;rw[hv']
  rw[e]
  exact Kd.GY ok
 ·have:=aeV.1 hk k (aeY hk1)
  simp only[aeI,af6]at this
  exact this
theorem Je {α:Type}{l:List α}{i:Nat}{d:α}:l.getD i d∈l\/l.getD i d=d:=by
 rw[af8]
 cases h:l[i]? with
 |none=>exact .inr rfl
 |some x=>exact .inl (aeY h)
theorem len_in {w:World}{v:Value}{sz:Nat}{els:List (List Value)}(h:bT w v sz els):InI ivN (els.length:Int):=⟨by show(0:Int)<=_;omega,h.most⟩
structure Fits (D:FnD)(q:At):Prop where
 i:(q.i:Int)<9223372036854775807
 k:(q.k:Int)<9223372036854775807
 m:(q.m:Int)<9223372036854775807
 t:(q.t:Int)<9223372036854775807
theorem a0s {ks:List Kd}{l:List Value}(h:au Kd.ok ks l\/l=[])(hk:(ks.all λk=>decide (k.iv.1<=0)&&decide (0<=k.iv.2))=true){z k n:Nat}(hz:ks.length=z)(hkn:(k:Int)<9223372036854775807):au InI (ivE ks) (Il z l k n):=
 ⟨⟨by show(0:Int)<=_;omega,by show _<=(9223372036854775807:Int);omega⟩,⟨by show(0:Int)<=_;omega,by show _<=(9223372036854775807:Int);omega⟩,sG _,Ou h hk hz⟩
theorem Ef {v:Value}(h:aZ w v D)(i:Nat):jV w (D.blk i)\/D.blk i=b0:=by
 rcases Je (l:=D.bs) (i:=i) (d:=b0)with k|k
 ·exact .inl (h.blk _ k)
 ·exact .inr k
theorem aal {v:Value}(h:aZ w v D)(i k:Nat):au Kd.ok zk (D.stm i k)\/D.stm i k=[]:=by
 rcases Je (l:=(D.blk i).st) (i:=k) (d:=[])with hm|hm
 ·rcases Ef h i with e|e
  ·exact .inl (e.skd _ hm)
  ·rw[e]at hm;cases hm
 ·exact .inr hm
theorem aaY {v:Value}(h:aZ w v D)(i m:Nat):au Kd.ok opK (D.opd i m)\/D.opd i m=[]:=by
 rcases Je (l:=(D.blk i).ops) (i:=m) (d:=[])with hm|hm
 ·rcases Ef h i with e|e
  ·exact .inl (e.okd _ hm)
  ·rw[e]at hm;cases hm
 ·exact .inr hm
theorem a9O {v:Value}(h:aZ w v D)(t:Nat):au Kd.ok [.i .u8,.i .u8] (D.typ t)\/D.typ t=[]:=by
 rcases Je (l:=D.ls) (i:=t) (d:=[])with hm|hm
 ·exact .inl (h.lkd _ hm)
 ·exact .inr hm
theorem a6k {v:Value}(h:aZ w v D){q:At}(hq:Fits D q):au InI eH (zl D++(xsB D q++(xsS D q++(xsO D q++(xsT D q++xsC D q))))):=by
 have nS:InI ivN ((D.blk q.i).st.length:Int):=by
  rcases Ef h q.i with e|e
  ·exact len_in e.sts
  ·rw[e];exact⟨by decide,by decide⟩
 have nA:InI ivN ((D.blk q.i).ops.length:Int):=by
  rcases Ef h q.i with e|e
  ·exact len_in e.opl
  ·rw[e];exact⟨by decide,by decide⟩
 have pre:au Kd.ok qM (D.blk q.i).pre\/(D.blk q.i).pre=[]:=(Ef h q.i).imp (λe=>e.rJ) λe=>by rw[e];rfl
 have post:au Kd.ok kW (D.blk q.i).post\/(D.blk q.i).post=[]:=(Ef h q.i).imp (λe=>e.mZ) λe=>by rw[e];rfl
 refine gq ?_ (gq ?_ (gq ?_ (gq ?_ (gq ?_ ?_))))
 ·obtain⟨n,e,h1,h2⟩:=h.pk
  cases e
  exact⟨⟨h1,h2⟩,sG _,len_in h.locals,by have:=len_in h.blocks;rwa[af4]at this,trivial⟩
 ·refine gq (a:=[ivN,ivN,ivB,ivN]) ⟨⟨by show(0:Int)<=_;omega,by have:=hq.i;show _<=(9223372036854775807:Int);omega⟩,⟨by show(0:Int)<=_;omega,by have:=hq.i;show _<=(9223372036854775807:Int);omega⟩,sG _,nS,trivial⟩ ?_
  exact gq (Ou pre (by decide) rfl) ⟨nA,Ou post (by decide) rfl⟩
 ·exact a0s (aal h _ _) (by decide) rfl hq.k
 ·exact a0s (aaY h _ _) (by decide) rfl hq.m
 ·exact a0s (a9O h _) (by decide) rfl hq.t
 ·exact⟨sG _,sG _,sG _,sG _,sG _,sG _,sG _,sG _,sG _,sG _,sG _,sG _,sG _,sG _,trivial⟩
theorem lC {v:Value}(h:aZ w v D){q:At}(hq:Fits D q){iv:List (Int×Int)}{m1 m2:List Int}(hm:au InI iv m1)(sig:Nat->List UInt8):(Lf.of (eH++iv)).Holds (aA (aH D q (m1++m2))) sig:=by
 have hall:=gq (a6k h hq) hm
 refine Lf.a2A λi p hp=>?_
 obtain⟨x,hx,hi⟩:=au.nth hall (n:=i) (x:=p) (by rw[aI];exact hp)
 have e:aH D q (m1++m2)=((zl D++(xsB D q++(xsS D q++(xsO D q++(xsT D q++xsC D q)))))++m1)++m2:=by simp[aH]
 have:aA (aH D q (m1++m2)) i=x:=by
  rw[e]
  unfold aA
  rw[af8,af5 (aeU.1 hx).1,hx]
  rfl
 rw[this]
 exact hi
noncomputable def Lf.pin (L:Lf)(i:Nat)(c:Int):Lf:=(L.hi i c).lo i c
theorem Lf.Holds.pin {L:Lf}{rho:Nat->Int}{sig:Nat->List UInt8}(h:L.Holds rho sig){i:Nat}{c:Int}(e:rho i=c):(L.pin i c).Holds rho sig:=(h.hi (i:=i) (c:=c) (by omega)).lo (i:=i) (c:=c) (by omega)
theorem bJ (q q':At)(more more':List Int):Agree (fnB w D q more) (fnB w D q' more') ⟨4,0,3⟩:=
 ⟨rfl,rfl,λi h=>VI (a:=zl D) h,λ_ _=>rfl,λl h=>by
  have:l=0\/l=1\/l=2:=by have h:l<3:=h;omega
  rcases this with rfl|rfl|rfl<;>rfl⟩
theorem bY (q q':At)(h:q.i=q'.i)(more more':List Int):Agree (fnB w D q more) (fnB w D q' more') ⟨21,0,5⟩:=
 ⟨rfl,rfl,λi hi=>by
  show aA (aH D q more) i=aA (aH D q' more') i
  have e:∀(q:At) (more:List Int),aH D q more=(zl D++xsB D q)++(xsS D q++(xsO D q++(xsT D q++(xsC D q++more)))):=λq more=>by simp[aH]
  have e2:xsB D q=xsB D q':=by unfold xsB;rw[h]
  rw[e,e,<-e2]
  exact VI hi,λ_ _=>rfl,λl hl=>by
  show(a6t D q).getD l _=(a6t D q').getD l _
  unfold a6t
  rw[h]⟩
def bK:List S:=[.xi .i64 0,.xe [(1,1)],.rv 0,.rv 1]
def lU:List S:=.rv 3::(dD 8 qM++.rv 4::dD 18 kW)
def nT:List S:=dD 8 qM++.rv 4::dD 18 kW
def lV:List S:=dD 24 zk
def Jg:List S:=dD 53 opK
def CW:List S:=dD 61 [.i .u8,.i .u8]
theorem a7l [Base]{r:Ren}{k:Kd}(hk:k≠.s){v:Value}(h:k.ok v){i:Nat}(e:Base.rho i=bD v):VS r (cellT i k) v:=by
 cases k with
 |s=>exact absurd rfl hk
 |b=>
  obtain⟨b,rfl⟩:=h
  show Value.bool b=.bool ((decide (Base.rho i=1))||false)
  rw[e,afL]
  cases b<;>rfl
 |i k=>
  obtain⟨n,rfl,_⟩:=h
  show Value.int k n=.int k (Base.rho i)
  rw[e]
  rfl
theorem Rq [Base]{r:Ren}:∀{ks:List Kd} {vs:List Value} {o:Nat},(ks.all λk=>match k with | .s=>false|_=>true)=true->au Kd.ok ks vs->(∀j v,vs[j]? =some v->Base.rho (o+j)=bD v)->au (VS r) (dD o ks) vs
 |[],[],_,_,_,_=>trivial
 |k::ks,v::vs,o,hs,h,hr=>by
  simp only[afz,aeI]at hs
  refine⟨a7l (λe=>by rw[e]at hs;cases hs.1) h.1 (hr 0 v rfl),Rq hs.2 h.2 λj u hu=>?_⟩
  rw[show o+1+j=o+(j+1)by omega]
  exact hr (j+1) u hu
 |[],_::_,_,_,h,_=>h.elim
 |_::_,[],_,_,h,_=>h.elim
theorem Dk {n j:Nat}{l:List Value}{v:Value}(h:j<n)(hv:l[j]? =some v)(rest:List Int):aA (rQ n l++rest) j=bD v:=by
 unfold aA rQ
 rw[af8,af5 (by simpa using h),aeT,afH h]
 show ah l j=_
 unfold ah
 rw[hv]
theorem a6L (q:At)(more:List Int){j:Nat}{v:Value}(h:(D.blk q.i).pre[j]? =some v)(hj:j<9):aA (aH D q more) (8+j)=bD v:=by
 have e:aH D q more=(zl D++[(q.i:Int),(q.i:Int)+1,nG q.i D.bs.length,(D.blk q.i).st.length])++(rQ 9 (D.blk q.i).pre++((((D.blk q.i).ops.length:Int)::rQ 3 (D.blk q.i).post)++(xsS D q++(xsO D q++(xsT D q++(xsC D q++more)))))):=by simp[aH,xsB,VN]
 rw[e]
 refine(kR (n:=8) rfl).trans ?_
 exact Dk hj h _
theorem a0q (q:At)(more:List Int){j:Nat}{v:Value}(h:(D.blk q.i).post[j]? =some v)(hj:j<3):aA (aH D q more) (18+j)=bD v:=by
 have e:aH D q more=(zl D++([(q.i:Int),(q.i:Int)+1,nG q.i D.bs.length,(D.blk q.i).st.length]++(rQ 9 (D.blk q.i).pre++[((D.blk q.i).ops.length:Int)])))++(rQ 3 (D.blk q.i).post++(xsS D q++(xsO D q++(xsT D q++(xsC D q++more))))):=by simp[aH,xsB,VN]
 rw[e]
 refine(kR (n:=18) rfl).trans ?_
 exact Dk hj h _
theorem a5L (q:At)(more:List Int){j:Nat}{v:Value}(h:(D.stm q.i q.k)[j]? =some v)(hj:j<26):aA (aH D q more) (24+j)=bD v:=by
 have e:aH D q more=(zl D++(xsB D q++[(q.k:Int),(q.k:Int)+1,nG q.k (D.blk q.i).st.length]))++(rQ 26 (D.stm q.i q.k)++(xsO D q++(xsT D q++(xsC D q++more)))):=by simp[aH,xsS,Il]
 rw[e]
 refine(kR (n:=24) rfl).trans ?_
 exact Dk hj h _
theorem a7n (q:At)(more:List Int){j:Nat}{v:Value}(h:(D.opd q.i q.m)[j]? =some v)(hj:j<5):aA (aH D q more) (53+j)=bD v:=by
 have e:aH D q more=(zl D++(xsB D q++(xsS D q++[(q.m:Int),(q.m:Int)+1,nG q.m (D.blk q.i).ops.length])))++(rQ 5 (D.opd q.i q.m)++(xsT D q++(xsC D q++more))):=by simp[aH,xsO,Il]
 rw[e]
 refine(kR (n:=53) rfl).trans ?_
 exact Dk hj h _
theorem a5A (q:At)(more:List Int){j:Nat}{v:Value}(h:(D.typ q.t)[j]? =some v)(hj:j<2):aA (aH D q more) (61+j)=bD v:=by
 have e:aH D q more=(zl D++(xsB D q++(xsS D q++(xsO D q++[(q.t:Int),(q.t:Int)+1,nG q.t D.ls.length]))))++(rQ 2 (D.typ q.t)++(xsC D q++more)):=by simp[aH,xsT,Il]
 rw[e]
 refine(kR (n:=61) rfl).trans ?_
 exact Dk hj h _
def E.ren (f:Nat->Nat):E->E
 | .lt i c=>.lt (f i) c
 | .zero l=>.zero (l.map λp=>(f p.1,p.2))
 | .and a b=>.and (a.ren f) (b.ren f)
 | .or a b=>.or (a.ren f) (b.ren f)
 | .not a=>.not (a.ren f)
def E.bd (n:Nat):E->Bool
 | .lt i c=>Nat.blt i n
 | .zero l=>l.all λp=>Nat.blt p.1 n
 | .and a b=>a.bd n&&b.bd n
 | .or a b=>a.bd n&&b.bd n
 | .not a=>a.bd n
theorem E.jD {f:Nat->Nat}{rho rho':Nat->Int}{n:Nat}:∀{e:E},e.bd n=true->(∀i,i<n->rho (f i)=rho' i)->(e.ren f).num rho=e.num rho'
 | .lt i c,h,k=>by
  have h:Nat.blt i n=true:=h
  show decide (rho (f i)<c)=decide (rho' i<c)
  rw[k i (by rwa[afM]at h)]
 | .zero l,h,k=>by
  have h:(l.all λp=>Nat.blt p.1 n)=true:=h
  show((l.map λp=>(f p.1,p.2)).all λp=>decide (rho p.1=p.2))=l.all λp=>decide (rho' p.1=p.2)
  rw[agG]
  refine zH λp hp=>?_
  have:=aeV.1 h p hp
  show decide (rho (f p.1)=p.2)=_
  rw[k p.1 (by rwa[afM]at this)]
 | .and a b,h,k=>by
  have h:(a.bd n&&b.bd n)=true:=h
  rw[aeI]at h
  show((a.ren f).num rho&&(b.ren f).num rho)=(a.num rho'&&b.num rho')
  rw[E.jD h.1 k,E.jD h.2 k]
 | .or a b,h,k=>by
  have h:(a.bd n&&b.bd n)=true:=h
  rw[aeI]at h
  show((a.ren f).num rho||(b.ren f).num rho)=(a.num rho'||b.num rho')
  rw[E.jD h.1 k,E.jD h.2 k]
 | .not a,h,k=>by
  show(!(a.ren f).num rho)=!(a.num rho')
  rw[E.jD (e:=a) h k]
theorem E.iD (vs:List Value):∀e:E,e.val vs=e.num (ah vs)
 | .lt i c=>rfl
 | .zero l=>rfl
 | .and a b=>by show(a.val vs&&b.val vs)=(a.num _&&b.num _);rw[E.iD vs a,E.iD vs b]
 | .or a b=>by show(a.val vs||b.val vs)=(a.num _||b.num _);rw[E.iD vs a,E.iD vs b]
 | .not a=>by show(!a.val vs)=!(a.num _);rw[E.iD vs a]
theorem yA {n j:Nat}{l:List Value}(h:j<n)(rest:List Int):aA (rQ n l++rest) j=ah l j:=by
 unfold aA rQ
 rw[af8,af5 (by simpa using h),aeT,afH h]
 rfl
theorem yY (q:At)(more:List Int){e:E}(h:e.bd 26=true):(e.ren (24+·)).num (aA (aH D q more))=e.num (ah (D.stm q.i q.k)):=by
 refine E.jD h λj hj=>?_
 have e:aH D q more=(zl D++(xsB D q++[(q.k:Int),(q.k:Int)+1,nG q.k (D.blk q.i).st.length]))++(rQ 26 (D.stm q.i q.k)++(xsO D q++(xsT D q++(xsC D q++more)))):=by simp[aH,xsS,Il]
 rw[e]
 exact(kR (n:=24) rfl).trans (yA hj _)
theorem XL (q:At)(more:List Int){e:E}(h:e.bd 5=true):(e.ren (53+·)).num (aA (aH D q more))=e.num (ah (D.opd q.i q.m)):=by
 refine E.jD h λj hj=>?_
 have e:aH D q more=(zl D++(xsB D q++(xsS D q++[(q.m:Int),(q.m:Int)+1,nG q.m (D.blk q.i).ops.length])))++(rQ 5 (D.opd q.i q.m)++(xsT D q++(xsC D q++more))):=by simp[aH,xsO,Il]
 rw[e]
 exact(kR (n:=53) rfl).trans (yA hj _)
theorem FX (q:At)(more:List Int){e:E}(h:e.bd 2=true):(e.ren (61+·)).num (aA (aH D q more))=e.num (ah (D.typ q.t)):=by
 refine E.jD h λj hj=>?_
 have e:aH D q more=(zl D++(xsB D q++(xsS D q++(xsO D q++[(q.t:Int),(q.t:Int)+1,nG q.t D.ls.length]))))++(rQ 2 (D.typ q.t)++(xsC D q++more)):=by simp[aH,xsT,Il]
 rw[e]
 exact(kR (n:=61) rfl).trans (yA hj _)
def Tabs.app (a b:Tabs):Tabs:=⟨a.len++b.len,a.el++b.el,a.add++b.add⟩
theorem Yi (a b:List (Nat×Nat))(k:Nat):Tabs.lenOf ⟨a++b,[],[]⟩ k=(Tabs.lenOf ⟨a,[],[]⟩ k).or (Tabs.lenOf ⟨b,[],[]⟩ k):=by
 induction a with
 |nil=>rfl
 |cons p a ih=>
  show(bif aia p.1 k then some p.2 else Tabs.lenOf ⟨a++b,[],[]⟩ k)=(bif aia p.1 k then some p.2 else Tabs.lenOf ⟨a,[],[]⟩ k).or _
  cases aia p.1 k
  ·exact ih
  ·rfl
theorem a3F (a b:List (Nat×N×List S))(k:Nat)(i:N):Tabs.H7 ⟨[],a++b,[]⟩ k i=(Tabs.H7 ⟨[],a,[]⟩ k i).or (Tabs.H7 ⟨[],b,[]⟩ k i):=by
 induction a with
 |nil=>rfl
 |cons p a ih=>
  show(bif aia p.1 k&&p.2.1.eqv i then some p.2.2 else Tabs.H7 ⟨[],a++b,[]⟩ k i)=(bif aia p.1 k&&p.2.1.eqv i then some p.2.2 else Tabs.H7 ⟨[],a,[]⟩ k i).or _
  cases(aia p.1 k&&p.2.1.eqv i)
  ·exact ih
  ·rfl
theorem YO (a b:List (Nat×Int×Nat))(i:Nat)(c:Int):Tabs.EM ⟨[],[],a++b⟩ i c=(Tabs.EM ⟨[],[],a⟩ i c).or (Tabs.EM ⟨[],[],b⟩ i c):=by
 induction a with
 |nil=>rfl
 |cons p a ih=>
  show(bif aia p.1 i&&decide (p.2.1=c)then some p.2.2 else Tabs.EM ⟨[],[],a++b⟩ i c)=(bif aia p.1 i&&decide (p.2.1=c)then some p.2.2 else Tabs.EM ⟨[],[],a⟩ i c).or _
  cases(aia p.1 i&&decide (p.2.1=c))
  ·exact ih
  ·rfl
theorem or_some {α:Type}{x y:Option α}{z:α}(h:x.or y=some z):x=some z\/y=some z:=by cases x<;>simp_all
theorem aX [Base]{a b:Tabs}(ha:bQ a)(hb:bQ b):bQ (a.app b):=by
 refine⟨λk j h=>?_,λk i cs h=>?_,λi c j h=>?_⟩
 ·rcases or_some ((Yi a.len b.len k).symm.trans h)with h|h
  ·exact ha.len k j h
  ·exact hb.len k j h
 ·rcases or_some ((a3F a.el b.el k i).symm.trans h)with h|h
  ·exact ha.el k i cs h
  ·exact hb.el k i cs h
 ·rcases or_some ((YO a.add b.add i c).symm.trans h)with h|h
  ·exact ha.add i c j h
  ·exact hb.add i c j h
theorem Gn {b:Base}{k j n:Nat}{A:Option Addr}{c:Nat}(h:(b.lst k).v=.slice A n c)(hr:b.rho j=n):@bQ b ⟨[(k,j)],[],[]⟩:=by
 refine @bQ.mk b _ (λl i hh=>?_) (λ_ _ _ h=>(by cases h)) (λ_ _ _ h=>(by cases h))
 have hh:(bif aia k l then some j else none)=some i:=hh
 cases hb:aia k l<;>rw[hb]at hh<;>cases hh
 rw[<-aeX hb]
 exact⟨A,n,c,h,hr⟩
theorem Gf {b:Base}{i j:Nat}(h:b.rho j=b.rho i+1)(h1:-9223372036854775808<=b.rho j)(h2:b.rho j<=9223372036854775807):@bQ b ⟨[],[],[(i,1,j)]⟩:=by
 refine @bQ.mk b _ (λ_ _ h=>(by cases h)) (λ_ _ _ h=>(by cases h)) (λl c m hh=>?_)
 have hh:(bif aia i l&&decide (1=c)then some j else none)=some m:=hh
 cases hb:(aia i l&&decide (1=c))<;>rw[hb]at hh<;>cases hh
 simp only[aeI,af6]at hb
 rw[<-aeX hb.1,<-hb.2]
 exact⟨h,h1,h2⟩
theorem OL {e:Env}{v:Value}{sz k i n:Nat}{els:List (List Value)}{el:List Value}{cs:List S}(h:bT e.w v sz els)(hl:e.b.lst k=⟨v,els⟩)(hr:e.b.rho i=n)(he:els[n]? =some el)(hs:cs.length=sz)(hc:au (λx v=>∀r,@VS e.b r x v) cs el):
  @bQ e.b ⟨[],[(k,.x i,cs)],[]⟩:=by
 refine @bQ.mk e.b _ (λ_ _ h=>(by cases h)) (λl m ds hh=>?_) (λ_ _ _ h=>(by cases h))
 have hh:(bif aia k l&&(N.x i).eqv m then some cs else none)=some ds:=hh
 cases hb:(aia k l&&(N.x i).eqv m)<;>rw[hb]at hh<;>cases hh
 simp only[aeI]at hb
 rw[<-aeX hb.1,<-N.y9 hb.2]
 exact h.el (b:=e.b) (i:=.x i) rfl rfl hl (n:=n) hr he hs hc
def cu:Tabs:=⟨[(0,2),(1,3)],[],[]⟩
def iJ:Tabs:=⟨[(3,7),(4,17)],[(1,.x 4,lU)],[(4,1,5)]⟩
def Ym:Tabs:=⟨[],[(3,.x 21,lV)],[(21,1,22)]⟩
def a2s:Tabs:=⟨[],[(4,.x 50,Jg)],[(50,1,51)]⟩
def O0:Tabs:=⟨[],[(0,.x 58,CW)],[(58,1,59)]⟩
variable {v:Value} (h:aZ w v D)
include h
theorem aS (q:At)(more:List Int):@bQ (fnB w D q more) cu:=by
 obtain⟨A,c,e⟩:=h.locals.sl
 obtain⟨A',c',e'⟩:=h.blocks.sl
 rw[af4]at e'
 exact @aX (fnB w D q more) ⟨[(0,2)],[],[]⟩ ⟨[(1,3)],[],[]⟩ (Gn (n:=D.ls.length) e rfl) (Gn (n:=D.bs.length) e' rfl)
theorem yt {ks:List Kd}{vs:List Value}{o:Nat}{b:Base}(hs:(ks.all λk=>match k with | .s=>false|_=>true)=true)(hk:au Kd.ok ks vs)(hr:∀j v,vs[j]? =some v->b.rho (o+j)=bD v):au (λx v=>∀r,@VS b r x v) (dD o ks) vs:=by
 have h1:=λr=>@Rq b r ks vs o hs hk hr
 refine fZ (h1 r0).len λi x v hx hv r=>?_
 obtain⟨v',hv',ok⟩:=au.nth (h1 r) (n:=i) (x:=x) (by rw[aI];exact hx)
 rw[hv]at hv'
 cases hv'
 exact ok
theorem wF (q:At)(more:List Int)(r:Ren):@VA (fnB w D q more) r (.g bK) v:=by
 obtain⟨A,c,e⟩:=h.locals.sl
 obtain⟨A',c',e'⟩:=h.blocks.sl
 refine⟨[.int .i64 D.p,.bool D.u,D.lv,D.bv],by rw[h.eq],rfl,?_,⟨_,_,_,e,e⟩,⟨_,_,_,e',e'⟩,trivial⟩
 show Value.bool D.u=.bool (decide (b2i D.u=1)||false)
 cases D.u<;>rfl
theorem xI {i:Nat}(hi:i<D.bs.length):jV w (D.blk i)/\(D.bs.map bU.cells)[i]? =some (D.blk i).cells:=by
 have e:D.bs[i]? =some (D.blk i):=by
  unfold FnD.blk
  rw[af8,aeK hi]
  rfl
 refine⟨h.blk _ (aeY e),?_⟩
 rw[aeT,e]
 rfl
theorem Dw {i:Nat}(hi:i<D.bs.length)(q:At)(hq:q.i=i)(more:List Int):au (λx v=>∀r,@VS (fnB w D q more) r x v) nT ((D.blk i).pre++(D.blk i).a::(D.blk i).post):=by
 subst hq
 obtain⟨b,_⟩:=xI h hi
 obtain⟨A,c,e⟩:=b.opl.sl
 have h1:au (λx v=>∀r,@VS (fnB w D q more) r x v) (dD 8 qM) (D.blk q.i).pre:=yt h rfl b.rJ λj v hv=>a6L q more hv (by have:=(aeU.1 hv).1;have:=b.rJ.len;have:qM.length=9:=rfl;omega)
 have h2:au (λx v=>∀r,@VS (fnB w D q more) r x v) (dD 18 kW) (D.blk q.i).post:=yt h rfl b.mZ λj v hv=>a0q q more hv (by have:=(aeU.1 hv).1;have:=b.mZ.len;have:kW.length=3:=rfl;omega)
 exact gq h1 ⟨λr=>⟨A,_,c,e,e⟩,h2⟩
theorem N9 {i:Nat}(hi:i<D.bs.length)(q:At)(hq:q.i=i)(more:List Int):au (λx v=>∀r,@VS (fnB w D q more) r x v) lU (D.blk i).cells:=by
 have h3:=Dw h hi q hq more
 subst hq
 obtain⟨b,_⟩:=xI h hi
 obtain⟨A,c,e⟩:=b.sts.sl
 exact⟨λr=>⟨A,_,c,e,e⟩,h3⟩
theorem dN {q:At}(hi:q.i<D.bs.length)(more:List Int):@bQ (fnB w D q more) iJ:=by
 obtain⟨b,hb⟩:=xI h hi
 obtain⟨A,c,e⟩:=b.sts.sl
 obtain⟨A',c',e'⟩:=b.opl.sl
 have hlen:(D.bs.length:Int)<=9223372036854775807:=by have:=h.blocks.most;rwa[af4]at this
 have t1:@bQ (fnB w D q more) ⟨[(3,7)],[],[]⟩:=Gn (n:=(D.blk q.i).st.length) e rfl
 have t2:@bQ (fnB w D q more) ⟨[(4,17)],[],[]⟩:=Gn (n:=(D.blk q.i).ops.length) e' rfl
 have t3:@bQ (fnB w D q more) ⟨[],[(1,.x 4,lU)],[]⟩:=OL (e:=fnE w D q more) h.blocks rfl (n:=q.i) rfl hb rfl (N9 h hi q rfl more)
 have t4:@bQ (fnB w D q more) ⟨[],[],[(4,1,5)]⟩:=Gf rfl (show(-9223372036854775808:Int)<=(q.i:Int)+1 by omega) (show(q.i:Int)+1<=9223372036854775807 by omega)
 exact @aX (fnB w D q more) ⟨[(3,7),(4,17)],[(1,.x 4,lU)],[]⟩ _ (@aX (fnB w D q more) ⟨[(3,7),(4,17)],[],[]⟩ _ (@aX (fnB w D q more) _ _ t1 t2) t3) t4
theorem Ah {i k:Nat}(hi:i<D.bs.length)(hk:k<(D.blk i).st.length):au Kd.ok zk (D.stm i k)/\(D.blk i).st[k]? =some (D.stm i k):=by
 have e:(D.blk i).st[k]? =some (D.stm i k):=by
  unfold FnD.stm
  rw[af8,aeK hk]
  rfl
 exact⟨(xI h hi).1.skd _ (aeY e),e⟩
theorem Jc {i m:Nat}(hi:i<D.bs.length)(hm:m<(D.blk i).ops.length):au Kd.ok opK (D.opd i m)/\(D.blk i).ops[m]? =some (D.opd i m):=by
 have e:(D.blk i).ops[m]? =some (D.opd i m):=by
  unfold FnD.opd
  rw[af8,aeK hm]
  rfl
 exact⟨(xI h hi).1.okd _ (aeY e),e⟩
theorem TD {t:Nat}(ht:t<D.ls.length):au Kd.ok [.i .u8,.i .u8] (D.typ t)/\D.ls[t]? =some (D.typ t):=by
 have e:D.ls[t]? =some (D.typ t):=by
  unfold FnD.typ
  rw[af8,aeK ht]
  rfl
 exact⟨h.lkd _ (aeY e),e⟩
theorem EC {q:At}(hi:q.i<D.bs.length)(hk:q.k<(D.blk q.i).st.length)(more:List Int):au (λx v=>∀r,@VS (fnB w D q more) r x v) lV (D.stm q.i q.k):=by
 obtain⟨ok,_⟩:=Ah h hi hk
 exact yt h rfl ok λj v hv=>a5L q more hv (by have:=(aeU.1 hv).1;have:=ok.len;have:zk.length=26:=rfl;omega)
theorem YG {q:At}(hi:q.i<D.bs.length)(hm:q.m<(D.blk q.i).ops.length)(more:List Int):au (λx v=>∀r,@VS (fnB w D q more) r x v) Jg (D.opd q.i q.m):=by
 obtain⟨ok,_⟩:=Jc h hi hm
 exact yt h rfl ok λj v hv=>a7n q more hv (by have:=(aeU.1 hv).1;have:=ok.len;have:opK.length=5:=rfl;omega)
theorem KO {q:At}(ht:q.t<D.ls.length)(more:List Int):au (λx v=>∀r,@VS (fnB w D q more) r x v) CW (D.typ q.t):=by
 obtain⟨ok,_⟩:=TD h ht
 exact yt h rfl ok λj v hv=>a5A q more hv (by have:=(aeU.1 hv).1;have h2:=ok.len;simp only[afi,afC]at h2;omega)
theorem Ci {q:At}(hi:q.i<D.bs.length)(hk:q.k<(D.blk q.i).st.length)(more:List Int):@bQ (fnB w D q more) Ym:=by
 have b:=(xI h hi).1
 have hl:=b.sts.most
 exact @aX (fnB w D q more) ⟨[],[(3,.x 21,lV)],[]⟩ _ (OL (e:=fnE w D q more) b.sts rfl (n:=q.k) rfl (Ah h hi hk).2 rfl (EC h hi hk more))
  (Gf (i:=21) (j:=22) rfl (show(-9223372036854775808:Int)<=(q.k:Int)+1 by omega) (show(q.k:Int)+1<=9223372036854775807 by omega))
theorem Gj {q:At}(hi:q.i<D.bs.length)(hm:q.m<(D.blk q.i).ops.length)(more:List Int):@bQ (fnB w D q more) a2s:=by
 have b:=(xI h hi).1
 have hl:=b.opl.most
 exact @aX (fnB w D q more) ⟨[],[(4,.x 50,Jg)],[]⟩ _ (OL (e:=fnE w D q more) b.opl rfl (n:=q.m) rfl (Jc h hi hm).2 rfl (YG h hi hm more))
  (Gf (i:=50) (j:=51) rfl (show(-9223372036854775808:Int)<=(q.m:Int)+1 by omega) (show(q.m:Int)+1<=9223372036854775807 by omega))
theorem Wx {q:At}(ht:q.t<D.ls.length)(more:List Int):@bQ (fnB w D q more) O0:=by
 have hl:=h.locals.most
 exact @aX (fnB w D q more) ⟨[],[(0,.x 58,CW)],[]⟩ _ (OL (e:=fnE w D q more) h.locals rfl (n:=q.t) rfl (TD h ht).2 rfl (KO h ht more))
  (Gf (i:=58) (j:=59) rfl (show(-9223372036854775808:Int)<=(q.t:Int)+1 by omega) (show(q.t:Int)+1<=9223372036854775807 by omega))
