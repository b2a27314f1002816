/- Lists among the arguments, and lists in their elements. -/
import Derived.Test.YtnhnelgkcldkbaaGreatDoorJump1
import Derived.Test.YtnhnelgkcldkbaaGreatDoorReg
import Derived.Test.YtnhnelgkcldkbaaGreatDoorFn0
import Derived.Deep.MidRow
import Derived.Laws.AppendOwnNone
import Derived.Deep.AppendLies
set_option linter.all false
namespace Go.Proofs.YtnhnelgkcldkbaaGreatDoor
namespace Am
open Go.RowKit Go.ChangeShapes Go.WideShapes Go.Deep
structure bT (w:World)(v:Value)(sz:Nat)(els:List (List Value)):Prop where
 sl:∃A c,v=.slice A els.length c
 most:(els.length:Int)<=9223372036854775807
 at_:∀(i:Nat) (el:List Value),els[i]? =some el->∃b off c,v=.slice (some ⟨b,off,none⟩) els.length c/\∀f u,el[f]? =some u->w.cell? ⟨b,off+i*sz+f,none⟩=some u
 len:∀(i:Nat) (el:List Value),els[i]? =some el->el.length=sz
 cap:els≠[]->∀A n c,v=.slice A n c->n<=c/\c<=maxLen
theorem addr_add {b o i:Nat}:(⟨b,o,none⟩:Addr).add i=⟨b,o+i,none⟩:=by unfold Addr.add;split<;>simp_all
theorem uZ {P:Program}{H:Type}{enc:TypeId×Value->H}{w:World}{spare:Nat->Bool}{held:Bool}{t e:TypeId}{fuel sz:Nat}{v:Value}{x:DataW H×List MemPlace}(hu:P.underlying t=some (.slice e))(hC:P.cellsOf e=sz)(hsz:0<sz)
  (h:DataW.trod enc P w 0 spare held fuel t [v]=some x):∃els,bT w v sz els/\∃n,∀el∈els,∃y,DataW.trod enc P w 0 spare held n e el=some y:=by
 rcases open_slice hu h with⟨q,_⟩|⟨a,len,cap,mm,n,D,Pl,q,_,hlc,hcm,hmm,_,hel⟩
 ·cases q
  exact⟨[],⟨⟨none,0,rfl⟩,by simp,λi el h=>by simp at h,λi el h=>by simp at h,λh=>absurd rfl h⟩,0,λel h=>by cases h⟩
 ·cases q
  have hle:len<=mm:=by rw[hmm];split<;>omega
  rw[hC]at hel
  let els:List (List Value):=(List.range len).map λi=>(w.cells? 0 (a.add (i*sz)) sz).getD []
  have hlen:els.length=len:=by simp[els]
  have hget:∀i el,els[i]? =some el->i<len/\w.cells? 0 (a.add (i*sz)) sz=some el/\∃y,DataW.trod enc P w 0 spare held n e el=some y:=λi el hi=>by
   have hil:i<len:=by have:=(aeU.1 hi).1;omega
   obtain⟨cs',q1,q2⟩:=hel i (by omega)
   have:els[i]? =some cs':=by simp[els,hil,q1]
   rw[hi]at this
   cases this
   exact⟨hil,q1,_,q2⟩
  refine⟨els,⟨⟨some a,cap,by rw[hlen]⟩,by rw[hlen];simp only[maxLen]at hcm;omega,λi el hi=>?_,λi el hi=>?_,λ_ A' n' c' e'=>by cases e';exact⟨hlc,hcm⟩⟩,n,λel hm=>?_⟩
  ·obtain⟨hil,q1,_⟩:=hget i el hi
   obtain⟨_,hn,hat⟩:=ai6 q1
   obtain⟨b,off,spot⟩:=a
   have hsp:spot=none:=by
    obtain⟨cs0,q0,_⟩:=hel 0 (by omega)
    obtain⟨_,hn0,hat0⟩:=ai6 q0
    have h0:=hat0 0 hsz
    cases cs0 with
    |nil=>simp at hn0;omega
    |cons u cs0=>
     have:=World.cell?_spot h0
     simpa[Addr.add]using this
   subst hsp
   refine⟨b,off,cap,by rw[hlen],λf u hf=>?_⟩
   have hfl:f<sz:=by have:=(aeU.1 hf).1;omega
   have:=hat f hfl
   rw[addr_add,addr_add]at this
   rw[this,hf]
  ·obtain⟨hil,q1,_⟩:=hget i el hi
   obtain⟨_,hn,_⟩:=ai6 q1
   exact hn
  ·obtain⟨i,hi⟩:=afD hm
   exact(hget i el hi).2.2
theorem bT.frz {w w':World}{v:Value}{sz:Nat}{els:List (List Value)}(h:bT w v sz els)(hw:∀k,k<w.heap.size->w'.heap[k]? =w.heap[k]?):bT w' v sz els:=
 ⟨h.sl,h.most,λi el he=>by
  obtain⟨b,off,c,e1,e2⟩:=h.at_ i el he
  refine⟨b,off,c,e1,λf u hf=>?_⟩
  have hcell:=e2 f u hf
  rw[<-hcell]
  exact ahI (hw b (ahK w ⟨b,off+i*sz+f,none⟩ hcell)),h.len,h.cap⟩
theorem bT.el {b:Base}{w:World}{v:Value}{sz:Nat}{els:List (List Value)}(h:bT w v sz els)(hb:b.nb=w.heap.size)(hg:b.g=λk=>w.heap[k]?){k:Nat}(hl:b.lst k=⟨v,els⟩){i:N}{n:Nat}(hn:@NV b i=(n:Int)){el:List Value}(he:els[n]? =some el){cs:List S}(hs:cs.length=sz)(hcs:au (λx v=>∀r,@VS b r x v) cs el):
  ∃bb off m c el,(b.lst k).v=.slice (some ⟨bb,off,none⟩) m c/\0<=@NV b i/\@NV b i<m/\@aaj b k i bb (off+(@NV b i).toNat*cs.length) el/\au (λx v=>∀r,@VS b r x v) cs el:=by
 obtain⟨bb,off,c,e,hc⟩:=h.at_ n el he
 have hlt:=(aeU.1 he).1
 refine⟨bb,off,els.length,c,el,by rw[hl];exact e,by rw[hn];omega,by rw[hn];omega,⟨by rw[hn,hl];exact he,λf u hf w1 hw=>?_⟩,hcs⟩
 have hcell:=hc f u hf
 have hlb:=ahK w ⟨bb,off+n*sz+f,none⟩ hcell
 have hblk:w1.heap[bb]? =w.heap[bb]? :=(hw bb (by rw[hb];exact hlb)).trans (by rw[hg])
 rw[hn,hs,afO,<-hcell]
 exact ahI hblk
def CellIs {P:Program}{H:Type}(enc:TypeId×Value->H)(w:World)(spare:Nat->Bool)(held:Bool)(k:Kd ⊕ TypeId)(v:Value):Prop:=match k with
 | .inl kd=>kd.ok v
 | .inr t=>∃m y,DataW.trod enc P w 0 spare held m t [v]=some y
def a4f (P:Program)(n:Nat)(t:TypeId)(ks:List (Kd ⊕ TypeId)):Prop:=
 ∀(i:Nat) (k:Kd ⊕ TypeId),ks[i]? =some k->∃p:Nat×TypeId,(Ii P n 0 t)[i]? =some p/\p.1=i/\(match k with | .inl kd=>a2F P p.2=some kd| .inr u=>p.2=u)
def a3O (p q:Kd):Bool:=match p,q with
 | .i x,.i y=>decide (x=y)
 | .b,.b=>true
 | .s,.s=>true
 |_,_=>false
theorem a0U {p q:Kd}(h:a3O p q=true):p=q:=by
 unfold a3O at h
 split at h
 ·rw[agu h]
 ·rfl
 ·rfl
 ·cases h
def zu (P:Program)(n:Nat)(t:TypeId)(ks:List (Kd ⊕ TypeId)):Bool:=(List.range ks.length).all λi=>match (Ii P n 0 t)[i]?,ks[i]? with
 |some p,some k=>Nat.beq p.1 i&&(match k with | .inl kd=>(match a2F P p.2 with |some kd'=>a3O kd' kd|none=>false)| .inr u=>Nat.beq p.2 u)
 |_,_=>false
theorem uM {P:Program}{n:Nat}{t:TypeId}{ks:List (Kd ⊕ TypeId)}(h:zu P n t ks=true):a4f P n t ks:=by
 intro i k hk
 have hi:=(aeU.1 hk).1
 have hb:=aeV.1 h i (afs.2 hi)
 rw[hk]at hb
 cases hp:(Ii P n 0 t)[i]? with
 |none=>rw[hp]at hb;cases hb
 |some p=>
  rw[hp]at hb
  simp only[aeI]at hb
  refine⟨p,rfl,aeX hb.1,?_⟩
  have hb2:=hb.2
  cases k with
  |inl kd=>
   cases hkd:a2F P p.2 with
   |none=>simp only[hkd]at hb2;cases hb2
   |some kd'=>
    simp only[hkd]at hb2
    show some kd'=some kd
    rw[a0U hb2]
  |inr u=>exact aeX hb2
theorem o7 {P:Program}{H:Type}{enc:TypeId×Value->H}{w:World}{spare:Nat->Bool}{held:Bool}{n:Nat}{t:TypeId}{fuel:Nat}{cs:List Value}{x:DataW H×List MemPlace}(h:DataW.trod enc P w 0 spare held fuel t cs=some x){ks:List (Kd ⊕ TypeId)}
  (hk:a4f P n t ks) (hl:cs.length=ks.length):au (CellIs (P:=P) enc w spare held) ks cs:=by
 refine fZ hl.symm λi k v hki hv=>?_
 obtain⟨p,hp,hpi,hm⟩:=hk i k hki
 obtain⟨_,v',y,m,k2,_,k4⟩:=KN n 0 t fuel cs x h p (aeY hp)
 rw[hpi,Nat.sub_zero,hv]at k2
 cases k2
 cases k with
 |inl kd=>exact a5t hm k4
 |inr u=>
  have hm:p.2=u:=hm
  subst hm
  exact⟨m,y,k4⟩
structure a3q (w:World)(kS:List Kd)(cells:List Value)(s:Value)(pre:List Value)(a:Value)(post:List Value)(stmts ops:List (List Value)):Prop where
 eq:cells=s::(pre++a::post)
 sts:bT w s kS.length stmts
 skd:∀st∈stmts,au Kd.ok kS st
 rJ:au Kd.ok qM pre
 opl:bT w a 5 ops
 okd:∀o∈ops,au Kd.ok opK o
 mZ:au Kd.ok kW post
structure a5h (w:World)(kS:List Kd)(v:Value)(p:Int)(u:Bool)(lv bv:Value)(ls bs:List (List Value)):Prop where
 eq:v=.agg #[.int .i64 p,.bool u,lv,bv]
 pk:Kd.ok (.i .i64) (.int .i64 p)
 locals:bT w lv 2 ls
 lkd:∀t∈ls,au Kd.ok [.i .u8,.i .u8] t
 blocks:bT w bv 14 bs
 blk:∀b∈bs,∃s pre a post stmts ops,a3q w kS b s pre a post stmts ops
theorem qP {P:Program}{H:Type}{enc:TypeId×Value->H}{w:World}{spare:Nat->Bool}{held:Bool}:∀{ks:List Kd} {us:List Value},au (CellIs (P:=P) enc w spare held) (ks.map .inl) us->au Kd.ok ks us
 |[],[],_=>trivial
 |k::ks,u::us,h=>⟨h.1,qP h.2⟩
 |[],_::_,h=>h.elim
 |_::_,[],h=>h.elim
theorem Ro {α β:Type}{R:α->β->Prop}:∀{xs ys:List α} {us:List β},au R (xs++ys) us->∃u1 u2,us=u1++u2/\au R xs u1/\au R ys u2
 |[],ys,us,h=>⟨[],us,rfl,trivial,h⟩
 |x::xs,ys,[],h=>h.elim
 |x::xs,ys,u::us,h=>by
  obtain⟨u1,u2,e,h1,h2⟩:=Ro (xs:=xs) h.2
  exact⟨u::u1,u2,by rw[e];rfl,⟨h.1,h1⟩,h2⟩
section
variable {P:Program} {H:Type} {enc:TypeId×Value->H} {w:World} {spare:Nat->Bool} {held:Bool} {kS:List Kd} {tF tLs tT tBs tB tSs tS tOs tO:TypeId}
theorem a1I {n:Nat}{cs:List Value}{x:DataW H×List MemPlace}(h:DataW.trod enc P w 0 spare held n tB cs=some x)(hl:cs.length=14)
  (lB:zu P 6 tB (.inr tSs::(qM.map .inl++.inr tOs::kW.map .inl))=true) (uS:P.underlying tSs=some (.slice tS)) (cS:P.cellsOf tS=kS.length) (hS:0<kS.length) (lS:zu P 6 tS (kS.map .inl)=true)
  (uO:P.underlying tOs=some (.slice tO)) (cO:P.cellsOf tO=5) (lO:zu P 6 tO (opK.map .inl)=true):∃s pre a post stmts ops,a3q w kS cs s pre a post stmts ops:=by
 have hc:=o7 h (uM lB) (by rw[hl];rfl)
 obtain⟨s,t,e,⟨m,y,hs⟩,ht⟩:=aN hc
 obtain⟨pre,t2,e2,hpre,ht2⟩:=Ro ht
 obtain⟨a,post,e3,⟨m2,y2,ha⟩,hpost⟩:=aN ht2
 obtain⟨stmts,L1,n1,g1⟩:=uZ uS cS hS hs
 obtain⟨ops,L2,n2,g2⟩:=uZ uO cO (by decide) ha
 refine⟨s,pre,a,post,stmts,ops,⟨by rw[e,e2,e3],L1,λst hst=>?_,qP hpre,L2,λo ho=>?_,qP hpost⟩⟩
 ·obtain⟨z,hz⟩:=g1 st hst
  obtain⟨i,hi⟩:=afD hst
  exact qP (o7 hz (uM lS) (by rw[L1.len i st hi,af4]))
 ·obtain⟨z,hz⟩:=g2 o ho
  obtain⟨i,hi⟩:=afD ho
  exact qP (o7 hz (uM lO) (by rw[L2.len i o hi];rfl))
theorem a0h {fuel:Nat}{cs:List Value}{x:DataW H×List MemPlace}(h:DataW.trod enc P w 0 spare held fuel tF cs=some x)(hl:cs.length=4)(lF:zu P 6 tF [.inl (.i .i64),.inl .b,.inr tLs,.inr tBs]=true)
  (uL:P.underlying tLs=some (.slice tT)) (cT:P.cellsOf tT=2) (lT:zu P 6 tT [.inl (.i .u8),.inl (.i .u8)]=true) (uB:P.underlying tBs=some (.slice tB)) (cB:P.cellsOf tB=14)
  (lB:zu P 6 tB (.inr tSs::(qM.map .inl++.inr tOs::kW.map .inl))=true) (uS:P.underlying tSs=some (.slice tS)) (cS:P.cellsOf tS=kS.length) (hS:0<kS.length) (lS:zu P 6 tS (kS.map .inl)=true)
  (uO:P.underlying tOs=some (.slice tO)) (cO:P.cellsOf tO=5) (lO:zu P 6 tO (opK.map .inl)=true):∃p u lv bv ls bs,a5h w kS (.agg cs.toArray) p u lv bv ls bs:=by
 have hc:=o7 h (uM lF) (by rw[hl];rfl)
 obtain⟨v0,t0,e0,h0,ht0⟩:=aN hc
 obtain⟨v1,t1,e1,h1,ht1⟩:=aN ht0
 obtain⟨lv,t2,e2,⟨m2,y2,h2⟩,ht2⟩:=aN ht1
 obtain⟨bv,t3,e3,⟨m3,y3,h3⟩,ht3⟩:=aN ht2
 have e4:=jY ht3
 have h0':Kd.ok (.i .i64) v0:=h0
 obtain⟨p,rfl,hp⟩:=h0
 obtain⟨u,rfl⟩:∃u:Bool,v1=.bool u:=h1
 obtain⟨ls,L1,n1,g1⟩:=uZ uL cT (by decide) h2
 obtain⟨bs,L2,n2,g2⟩:=uZ uB cB (by decide) h3
 refine⟨p,u,lv,bv,ls,bs,⟨by rw[e0,e1,e2,e3,e4],h0',L1,λt ht=>?_,L2,λb hb=>?_⟩⟩
 ·obtain⟨z,hz⟩:=g1 t ht
  obtain⟨i,hi⟩:=afD ht
  exact qP (ks:=[.i .u8,.i .u8]) (o7 hz (uM lT) (by rw[L1.len i t hi];rfl))
 ·obtain⟨z,hz⟩:=g2 b hb
  obtain⟨i,hi⟩:=afD hb
  exact a1I hz (L2.len i b hi) lB uS cS hS lS uO cO lO
end
theorem bT.a0H {w:World}{v:Value}{sz:Nat}{els:List (List Value)}(h:bT w v sz els):els.flatten.length=els.length*sz:=by
 have key:∀l:List (List Value),(∀x∈l,x.length=sz)->l.flatten.length=l.length*sz:=λl=>by
  induction l with
  |nil=>intro _;simp
  |cons x l ih=>
   intro h
   have h1:=ih λy hy=>h y (afd _ hy)
   have h2:=h x (afh ..)
   rw[afP,aeL,h1,h2,afi,ahd,ags]
 exact key els λx hx=>by
  obtain⟨i,hi⟩:=afD hx
  exact h.len i x hi
theorem VX {sz:Nat}:∀{l:List (List Value)} {j:Nat} {u:Value},(∀x∈l,x.length=sz)->l.flatten[j]? =some u->∃i f el,l[i]? =some el/\el[f]? =some u/\j=i*sz+f
 |[],j,u,_,h=>by simp at h
 |x::l,j,u,hl,h=>by
  have hx:=hl x (afh ..)
  rw[afP]at h
  by_cases hj:j<x.length
  ·rw[af5 hj]at h
   exact⟨0,j,x,rfl,h,by simp⟩
  ·rw[af7 (by omega)]at h
   obtain⟨i,f,el,h1,h2,h3⟩:=VX (λy hy=>hl y (afd _ hy)) h
   exact⟨i+1,f,el,by simpa using h1,h2,by rw[ahd];omega⟩
theorem bT.lens {w:World}{v:Value}{sz:Nat}{els:List (List Value)}(h:bT w v sz els):∀x∈els,x.length=sz:=λx hx=>by
 obtain⟨i,hi⟩:=afD hx
 exact h.len i x hi
theorem Fq {P:Program}{w:World}(base:Nat)(t ty e:TypeId)(z:Value)(size bytes:Nat)(ht:P.underlying t=some (.slice e))(hrow:(P.info? e).map (λi=>(i.zero,i.size,i.bytes))=some (some z,size,bytes))(hzs:z.cells.size=size)(hsz:0<size)
  (v:Value) (n:Nat) (xs:List Value) (hown:w.ownsRow base e size v n xs) {sv:Value} {els:List (List Value)} (hs:bT w sv size els) (h1:∀el∈els,∀u∈el,u.oneCell'=true)
  (h63:n+els.length<=1000000) (hby:bytes<=1000000) (hbase:base<=w.heap.size):
  ∃v' w',(Builtin.append_ #[t,t] ty #[v,sv]).run P w=.ok v' w'/\w'.ownsRow base e size v' (n+els.length) (xs++els.flatten)/\w.grownBy w' v.ownBlock/\(v'=.slice none 0 0->v=.slice none 0 0)/\(v'.ownBlock=v.ownBlock\/v'.ownBlock=some w.heap.size):=by
 obtain⟨i,hi,hz0,hz1,hz2⟩:=ahS hrow
 obtain⟨A,c,e1⟩:=hs.sl
 have hmul:(n+els.length)*bytes<=1000000*1000000:=agD h63 hby
 have some_:∀a:Addr,(∀j u,els.flatten[j]? =some u->w.cell? (a.add j)=some u)->sv=.slice (some a) els.length c->∃v' w',(Builtin.append_ #[t,t] ty #[v,sv]).run P w=.ok v' w'/\w'.ownsRow base e size v' (n+els.length) (xs++els.flatten)/\w.grownBy w' v.ownBlock/\(v'=.slice none 0 0->v=.slice none 0 0)/\(v'.ownBlock=v.ownBlock\/v'.ownBlock=some w.heap.size):=λa hc ea=>by
  obtain⟨v',w',hrun,r1,r2,r3,r4⟩:=run_append_own_at (P:=P) (w:=w) base t ty e i z size bytes ht hi hz0 hz1 hz2 hzs hsz v n xs hown a els.length c els.flatten hs.a0H hc (λu hu=>by
   obtain⟨el,h2,h3⟩:=List.mem_flatten.1 hu
   exact h1 el h2 u h3) (by unfold maxLen;omega) (by omega) hbase
  exact⟨v',w',by rw[ea];exact hrun,r1,r2,λh=>(r3.1 h).1,r4⟩
 cases hels:els with
 |nil=>
  cases A with
  |some a=>rw[<-hels];exact some_ a (λj u hu=>by rw[hels]at hu;simp at hu) e1
  |none=>
   have e1:sv=.slice none 0 c:=by rw[e1,hels];rfl
   have hrun:(Builtin.append_ #[t,t] ty #[v,.slice none 0 c]).run P w=.ok v w:=by
    rcases hown.2 with⟨rfl,rfl⟩|⟨g,cap,cur,rfl,_,_,hnc,_⟩
    ·simp[Builtin.append_,ahG ht,sizeOf,typeInfo,hi,Builtin.lenOf,Builtin.firstCells]
    ·simp[Builtin.append_,ahG ht,sizeOf,typeInfo,hi,Builtin.lenOf,Builtin.firstCells,hnc,storeCells]
   exact⟨v,w,by rw[e1];exact hrun,by simpa using hown,⟨rfl,rfl,rfl,aeM _,λ_ _ _=>rfl⟩,id,.inl rfl⟩
 |cons x r=>
  obtain⟨b,off,c',e2,_⟩:=hs.at_ 0 x (by rw[hels];rfl)
  rw[<-hels]
  have e3:sv=.slice (some ⟨b,off,none⟩) els.length c:=by
   rw[e1]at e2 |-
   cases e2
   rfl
  refine some_ ⟨b,off,none⟩ (λj u hu=>?_) e3
  obtain⟨i',f,el,h2,h3,rfl⟩:=VX hs.lens hu
  obtain⟨b',off',c'',e4,hc⟩:=hs.at_ i' el h2
  have:b'=b/\off'=off:=by
   rw[e4]at e3
   cases e3
   exact⟨rfl,rfl⟩
  obtain⟨rfl,rfl⟩:=this
  have:=hc f u h3
  rw[addr_add,<-afZ]
  exact this
def VG (v:Value):List Nat:=match v.ownBlock with |some k=>[k]|none=>[]
theorem uX {w w':World}{base:Nat}{e:TypeId}{size:Nat}{v:Value}{n:Nat}{xs:List Value}(h:w.ownsRow base e size v n xs)(hk:∀k,k∈VG v->w'.heap[k]? =w.heap[k]?):w'.ownsRow base e size v n xs:=by
 obtain⟨h1,h2⟩:=h
 refine⟨h1,?_⟩
 rcases h2 with h2|⟨g,cap,cur,rfl,hb,hg,r⟩
 ·exact .inl h2
 ·exact .inr ⟨g,cap,cur,rfl,hb,(hk g (by simp[VG,Value.ownBlock])).trans hg,r⟩
theorem DN {w:World}{base base':Nat}{e:TypeId}{size:Nat}{v:Value}{n:Nat}{xs:List Value}(h:w.ownsRow base e size v n xs)(hb:base'<=base):w.ownsRow base' e size v n xs:=by
 obtain⟨h1,h2⟩:=h
 refine⟨h1,?_⟩
 rcases h2 with h2|⟨g,cap,cur,rfl,hg,r⟩
 ·exact .inl h2
 ·exact .inr ⟨g,cap,cur,rfl,by omega,r⟩
theorem CU {w:World}{base:Nat}{e:TypeId}{size:Nat}{v:Value}{n:Nat}{xs:List Value}(h:w.ownsRow base e size v n xs):∀k,k∈VG v->base<=k/\k<w.heap.size:=λk hk=>by
 refine h.lt k ?_
 unfold VG at hk
 cases ho:v.ownBlock with
 |none=>rw[ho]at hk;cases hk
 |some j=>rw[ho]at hk;simp only[aeR]at hk;rw[hk]
theorem flat_get {sz:Nat}:∀{l:List (List Value)} {i f:Nat} {el:List Value} {u:Value},(∀x∈l,x.length=sz)->l[i]? =some el->el[f]? =some u->l.flatten[i*sz+f]? =some u
 |[],i,f,el,u,_,h,_=>by simp at h
 |x::l,0,f,el,u,hl,h,k=>by
  simp only[agh,afI]at h
  subst h
  rw[afP,Nat.zero_mul,afK,af5 (aeU.1 k).1]
  exact k
 |x::l,i+1,f,el,u,hl,h,k=>by
  have hx:=hl x (afh ..)
  rw[afP,af7 (by rw[ahd];omega),show(i+1)*sz+f-x.length=i*sz+f by rw[ahd];omega]
  exact flat_get (λy hy=>hl y (afd _ hy)) (by simpa using h) k
theorem bT.Em {w:World}{base:Nat}{e:TypeId}{sz:Nat}{v:Value}{els:List (List Value)}(h:w.ownsRow base e sz v els.length els.flatten)(hl:∀x∈els,x.length=sz):bT w v sz els:=by
 obtain⟨h1,h2⟩:=h
 rcases h2 with⟨rfl,h0⟩|⟨g,cap,cur,rfl,hb,hg,hn,hm,hs,ht⟩
 ·have:els=[]:=afA h0
  subst this
  exact⟨⟨none,0,rfl⟩,by simp,λi el h=>by simp at h,λi el h=>by simp at h,λh=>absurd rfl h⟩
 ·refine⟨⟨_,_,rfl⟩,by unfold maxLen at hm;omega,λi el hi=>⟨g,0,cap,rfl,λf u hf=>?_⟩,λi el hi=>hl el (aeY hi),λ_ A n c e=>?_⟩
  ·have hfl:=flat_get hl hi hf
   rw[<-ht,afQ]at hfl
   rw[afK,ahF w g _ cur e (0,0) hg]
   split at hfl
   ·simpa using hfl
   ·cases hfl
  ·cases e
   exact⟨hn,hm⟩
theorem ay {w:World}{o:Obj}{H:Nat}(hH:w.heap.size=H):(w.alloc o).heap[H]? =some o:=hH▸ahY w o
theorem dA {w:World}{o x:Obj}{k:Nat}(h:w.heap[k]? =some x):(w.alloc o).heap[k]? =some x:=by
 rw[ahX w o (aeN.1 h).1]
 exact h
theorem Ed {w:World}{o:Obj}{a:Addr}{v:Value}(h:w.cell? a=some v):(w.alloc o).cell? a=some v:=by
 rw[<-h]
 exact ahI (ahX w o (ahK w a h))
theorem ru {w w':World}{row:Option Nat}{x:Obj}{k:Nat}(hg:w.grownBy w' row)(h:w.heap[k]? =some x)(hne:some k≠row):w'.heap[k]? =some x:=by
 rw[hg.block k (aeN.1 h).1 hne]
 exact h
def Kept (r:Option Nat)(w w':World):Prop:=∀k x,some k≠r->w.heap[k]? =some x->w'.heap[k]? =some x
theorem QN {w:World}{b:Nat}{C:Array Value}{T:TypeId}(hb:w.heap[b]? =some (.cells C T (0,0)))(o:Nat):w.frozen? ⟨b,o,none⟩=false:=by
 simp[World.frozen?,hb]
theorem ET {w:World}{b:Nat}{C:Array Value}{T:TypeId}(hb:w.heap[b]? =some (.cells C T (0,0))){o n:Nat}(h:o+n<=C.size):w.there b o n:=λj hj=>by
 refine⟨?_,QN hb _⟩
 rw[ahF w b _ C T (0,0) hb]
 simp
 omega
section
variable {P:Program} {ops:Array Oper} {Q:Exit->Act->World->Prop} {B i:Nat} {o:Oper} {a:Act} {w:World} {R:Act->World->Prop}
theorem Gm (ho:ops.toList[i]? =some o)(hw:Region.wanted o (yielded ops a.tmps)=true)(v:Nat->Value)(cs:Array Value)(t:TypeId)(hrun:(execOp a.eval o).run P w=.ok (.value (v w.heap.size)) (w.alloc (.cells cs t)))(hB:B<=w.heap.size)
  (h:∀H w',H=w.heap.size->w'.heap[H]? =some (.cells cs t (0,0))->Kept none w w'->Below B w w'->w'.heap.size=H+1->R (a.put o.dst (v H)) w'):wpOp P ops Q i (λa' w'=>Below B w w'/\R a' w') a w:=
 a7m ho hw hrun ((ahE B w).alloc hB _) (h _ _ rfl (ahY w _) (λk x _ hk=>dA hk) ((ahE B w).alloc hB _) (by simp))
theorem Na (ho:ops.toList[i]? =some o)(hw:Region.wanted o (yielded ops a.tmps)=true)(ty:TypeId)(x y:Operand)(hop:o.op=.store ty x y)(b off:Nat)(cells:Array Value)(hx:a.eval x=.pointer (some ⟨b,off,none⟩))(hy:a.eval y=.agg cells)
  {C:Array Value} {T:TypeId} (hb:w.heap[b]? =some (.cells C T (0,0))) (hfit:off+cells.size<=C.size) (hi:(P.info? ty).map (·.size)=some cells.size) (h1:cells.all (·.oneCell')=true) (hB:B<=b)
  (h:∀w' D,w'.heap[b]? =some (.cells D T (0,0))->D.toList=C.toList.take off++(cells.toList++C.toList.drop (off+cells.size))->Kept (some b) w w'->Below B w w'->w'.heap.size=w.heap.size->R (a.put o.dst Go.undef) w'):wpOp P ops Q i (λa' w'=>Below B w w'/\R a' w') a w:=by
 letI:Base:=(⟨w,[],[]⟩:Env).b
 obtain⟨D,g1,g2,g3,g4,g5,g6,g7⟩:=setCells_at cells.toList off C w hb (by simpa using hfit)
 have hbel:Below B w (w.setCells b off cells.toList):=⟨g4,g5,g6,by omega,λk hk=>g3 k (by omega)⟩
 refine a0K (w':=w.setCells b off cells.toList) ho hw ?_ hbel (h _ D g1 (by simpa using g2) (λk x hk hx=>(g3 k (λe=>hk (by rw[e]))).trans hx) hbel g7)
 unfold execOp
 simp only[hop,hx,hy,Instr.storeAt,Instr.sureAddr,ahJ,ahL,ahH,run_storeVar_mid w b off ty cells (ET hb hfit) hi h1]
 try rfl
end
def Held (S:List Nat)(w W:World):Prop:=∀k∈S,∀x,w.heap[k]? =some x->W.heap[k]? =some x
theorem Kept.held {r:Option Nat}{w w':World}(h:Kept r w w'){S:List Nat}(hr:∀k∈S,some k≠r):Held S w w':=λk hk x hx=>h k x (hr k hk) hx
section
variable {P:Program} {ops:Array Oper} {Q:Exit->Act->World->Prop} {S:List Nat}
variable {i:Nat} {o:Oper} {a:Act} {w:World} {R:Act->World->Prop}
end
theorem bT.of_block {w:World}{H c:Nat}{cs:Array Value}{t:TypeId}(hb:w.heap[H]? =some (.cells cs t (0,0))){sz:Nat}(hs:cs.size=sz)(hc:1<=c/\c<=maxLen):bT w (.slice (some ⟨H,0,none⟩) 1 c) sz [cs.toList]:=
 ⟨⟨_,_,rfl⟩,by simp,λi el hi=>by
  have h0:i=0:=by have:=(aeU.1 hi).1;simpa using this
  subst h0
  simp only[agh,afI]at hi
  subst hi
  refine⟨H,0,c,rfl,λf u hf=>?_⟩
  rw[ahF w H _ cs t (0,0) hb]
  simpa using hf,λi el hi=>by
  have h0:i=0:=by have:=(aeU.1 hi).1;simpa using this
  subst h0
  simp only[agh,afI]at hi
  subst hi
  simpa using hs,λ_ A n c' e=>by cases e;exact hc⟩
def Box (w:World)(H:Nat)(t:TypeId)(a b c d:Value):Prop:=w.heap[H]? =some (.cells #[a,b,c,d] t (0,0))
theorem Box.cells {w:World}{H:Nat}{t:TypeId}{a b c d:Value}(h:Box w H t a b c d):w.cell? ⟨H,0,none⟩=some a/\w.cell? ⟨H,1,none⟩=some b/\w.cell? ⟨H,2,none⟩=some c/\w.cell? ⟨H,3,none⟩=some d:=by
 refine⟨?_,?_,?_,?_⟩<;>(rw[ahF w H _ _ t (0,0) h];rfl)
theorem Box.lt {w:World}{H:Nat}{t:TypeId}{a b c d:Value}(h:Box w H t a b c d):H<w.heap.size:=(aeN.1 h).1
theorem Box.below {w w':World}{H:Nat}{t:TypeId}{a b c d:Value}(h:Box w H t a b c d)(hb:Below w.heap.size w w'):Box w' H t a b c d:=(hb.block H h.lt).trans h
theorem Box.kept {w w':World}{H:Nat}{t:TypeId}{a b c d:Value}{r:Option Nat}(h:Box w H t a b c d)(hk:Kept r w w')(hr:some H≠r):Box w' H t a b c d:=hk H _ hr h
theorem Box.mk {w:World}{t:TypeId}{a b c d:Value}{H:Nat}(hH:w.heap.size=H):Box (w.alloc (.cells #[a,b,c,d] t)) H t a b c d:=ay hH
theorem Box.more {w:World}{o:Obj}{H:Nat}{t:TypeId}{a b c d:Value}(h:Box w H t a b c d):Box (w.alloc o) H t a b c d:=dA h
