/- The abstract machine's memory. -/
import Derived.Test.YtnhnelgkcldkbaaGreatDoorAmA
import Derived.Lib.ConvBytes
set_option linter.all false
set_option maxHeartbeats 1000000
open Nat renaming testBit → aia, ble → aib, beq → aic, shiftLeft → aif, blt → ail, not_lt → aip
open Array renaming replicate → aii
open List renaming replicate → aij, range → aik, length → ain, filter_cons → aio
namespace Go.Proofs.YtnhnelgkcldkbaaGreatDoor
namespace Am
variable [Base]
theorem Hp.get_nil (l:Nat):Hp.get [] l=none:=rfl
theorem Hp.gQ (p:Nat×Blk)(t:Hp)(l:Nat):Hp.get (p::t) l=bif p.1==l then some p.2 else Hp.get t l:=rfl
theorem Hp.a2M (p:Nat×Blk)(t:Hp)(l:Nat)(c:Blk):Hp.set (p::t) l c=bif p.1==l then(p.1,c)::t else p::Hp.set t l c:=rfl
theorem Hp.a15 (p:Nat×Blk)(t:Hp)(l:Nat):Hp.del (p::t) l=bif p.1==l then Hp.del t l else p::Hp.del t l:=rfl
theorem Hp.D6 (c:Blk)(l:Nat):∀(m:Hp) (b:Blk),Hp.get m l=some b->∀k,Hp.get (Hp.set m l c) k=if k=l then some c else Hp.get m k
 |[],_,h=>by cases h
 |p::t,b,h=>λk=>by
  rw[Hp.a2M]
  cases hp:(p.1==l)
  ·rw[Hp.gQ,hp]at h
   simp only[aeS]at h |-
   rw[Hp.gQ,Hp.gQ,Hp.D6 c l t b h k]
   cases hk:(p.1==k)
   ·rfl
   ·simp only[aeW]
    have:k≠l:=λe=>by subst e;rw[hp]at hk;cases hk
    rw[afc this]
  ·simp only[aeW]
   rw[Hp.gQ,Hp.gQ]
   have hp':p.1=l:=by simpa using hp
   cases hk:(p.1==k)
   ·have:k≠l:=λe=>by subst e;rw[hp]at hk;cases hk
    rw[afc this]
    rfl
   ·have:k=l:=by
       have:p.1=k:=by simpa using hk
       omega
    rw[afm this]
    rfl
theorem Hp.Gg (l:Nat):∀(m:Hp) (k:Nat),Hp.get (Hp.del m l) k=if k=l then none else Hp.get m k
 |[],k=>by split<;>rfl
 |p::t,k=>by
  rw[Hp.a15]
  cases hp:(p.1==l)
  ·simp only[aeS]
   rw[Hp.gQ,Hp.gQ,Hp.Gg l t k]
   cases hk:(p.1==k)
   ·rfl
   ·have:k≠l:=λe=>by subst e;rw[hp]at hk;cases hk
    simp[this]
  ·simp only[aeW]
   rw[Hp.Gg l t k,Hp.gQ]
   have hp':p.1=l:=by simpa using hp
   cases hk:(p.1==k)
   ·rfl
   ·have:k=l:=by
       have:p.1=k:=by simpa using hk
       omega
    rw[afm this,afm this]
theorem HR.keep {m:Nat->Option Blk}{r:Ren}{B:Nat}{w w':World}(h:HR m r B w)(hB:B<=w.heap.size)(hw:∀b,b<w.heap.size->w'.heap[b]? =w.heap[b]?):HR m r B w' where
 dom:=h.dom
 own l b hb ho:=by
  obtain⟨h1,h2,C,T,fz,h3,h4⟩:=h.own l b hb ho
  exact⟨h1,h2,C,T,fz,by rw[hw _ (aeN.1 h3).1];exact h3,h4⟩
 ro l b hb ho:=by
  obtain⟨h1,h2⟩:=h.ro l b hb ho
  refine⟨h1,λi x hx=>?_⟩
  obtain⟨u,hu,hv⟩:=h2 i x hx
  have e:w'.cell? (r.at l i)=w.cell? (r.at l i):=ahI (hw _ (by show r.blk l<_;omega))
  exact⟨u,by rw[e];exact hu,hv⟩
 inj:=h.inj
 nb:=h.nb
 z b hb:=(hw b (by have:=h.nb;omega)).trans (h.z b hb)
theorem HR.mono {m:Nat->Option Blk}{r r':Ren}(hr:r.le r'){B:Nat}{w:World}(h:HR m r B w):HR m r' B w where
 dom l b hb:=hr.n l (h.dom l b hb)
 own l b hb ho:=by
  obtain⟨h1,h2,C,T,fz,h3,h4,h5,h6⟩:=h.own l b hb ho
  have hl:=h.dom l b hb
  rw[hr.blk l hl,hr.off l hl,hr.cap l hl]
  exact⟨h1,h2,C,T,fz,h3,h4,h5,λi x hx=>by obtain⟨u,hu,hv⟩:=h6 i x hx;exact⟨u,hu,VS.mono hr hv⟩⟩
 ro l b hb ho:=by
  obtain⟨h1,h2⟩:=h.ro l b hb ho
  have hl:=h.dom l b hb
  rw[hr.blk l hl]
  refine⟨h1,λi x hx=>?_⟩
  rw[hr.at hl]
  obtain⟨u,hu,hv⟩:=h2 i x hx
  exact⟨u,hu,VS.mono hr hv⟩
 inj l b l' b' h1 h2 h3 h4 e:=by
  rw[hr.blk l (h.dom l b h1),hr.blk l' (h.dom l' b' h3)]at e
  exact h.inj l b l' b' h1 h2 h3 h4 e
 nb:=h.nb
 z:=h.z
theorem HR.sub {m m':Nat->Option Blk}{r:Ren}{B:Nat}{w:World}(h:HR m r B w)(hs:∀l b,m' l=some b->m l=some b):HR m' r B w:=
 ⟨λl b hb=>h.dom l b (hs l b hb),λl b hb=>h.own l b (hs l b hb),λl b hb=>h.ro l b (hs l b hb),λl b l' b' h1 h2 h3 h4=>h.inj l b l' b' (hs l b h1) h2 (hs l' b' h3) h4,h.nb,h.z⟩
def Ren.new (r:Ren)(n blk cap:Nat):Ren:=⟨λl=>r.ok l\/l=n,λl=>if l=n then blk else r.blk l,λl=>if l=n then 0 else r.off l,λl=>if l=n then cap else r.cap l⟩
theorem Ren.SY (r:Ren)(n blk cap:Nat)(hn:¬r.ok n):r.le (r.new n blk cap):=
 have h:∀l,r.ok l->l≠n:=λ_ hl e=>hn (e▸hl)
 ⟨λ_ hl=>.inl hl,λl hl=>afc (h l hl),λl hl=>afc (h l hl),λl hl=>afc (h l hl)⟩
theorem Ren.Tv (r:Ren)(n blk cap o:Nat):(r.new n blk cap).at n o=⟨blk,o,none⟩:=by simp[Ren.at,Ren.new]
theorem Inv.not (h:Heap){r:Ren}{B:Nat}{w:World}(hi:Inv h r B w):¬r.ok h.next:=λh'=>Nat.lt_irrefl _ (hi.n _ h')
theorem Heap.gI (h:Heap)(cs:List S)(l:Nat):(h.alloc cs).get l=if l=h.next then some ⟨cs,true⟩else h.get l:=by
 show Hp.get ((h.next,_)::h.m) l=_
 rw[Hp.gQ]
 cases hk:((h.next,(⟨cs,true⟩:Blk)).1==l)
 ·have:l≠h.next:=λe=>by subst e;simp at hk
  rw[afc this];rfl
 ·have:l=h.next:=by simp at hk;exact hk.symm
  rw[afm this];rfl
theorem Inv.new {h:Heap}{r:Ren}{B:Nat}{w w1:World}(hi:Inv h r B w){cs:List S}{C:Array Value}{T:TypeId}{fz:Nat×Nat}
  (ho:w1.os=w.os) (ht:w1.tape=w.tape) (hout:w1.output=w.output) (hsz:w1.heap.size=w.heap.size+1) (hold:∀b,b<w.heap.size->w1.heap[b]? =w.heap[b]?)
  (hnew:w1.heap[w.heap.size]? =some (.cells C T fz)) (hfz:∀i,i<=C.size->(fz.1<=i&&i<fz.2)=false)
  (hcs:∀i x,nth cs i=some x->∃u,C[i]? =some u/\VS r x u) (fl:Nat):
  Inv (h.alloc cs) (r.new h.next w.heap.size C.size) B w1/\Adv fl h r w (h.alloc cs) (r.new h.next w.heap.size C.size) w1:=by
 have hle:=r.SY h.next w.heap.size C.size (Inv.not h hi)
 have hk:=(hi.hr.keep hi.b hold).mono hle
 have hb:(r.new h.next w.heap.size C.size).blk h.next=w.heap.size:=by simp[Ren.new]
 have hlt:∀l b,h.get l=some b->b.own=true->(r.new h.next w.heap.size C.size).blk l<w.heap.size:=λl b hb ho=>by
  obtain⟨_,_,C',T',fz',h3,_⟩:=hi.hr.own l b hb ho
  rw[hle.blk l (hi.hr.dom l b hb)]
  exact(aeN.1 h3).1
 refine⟨⟨λl hl=>?_,by have:=hi.b;omega,?_⟩,?_⟩
 ·show l<h.next+1
  rcases hl with hl|hl
  ·have:=hi.n l hl;omega
  ·omega
 ·refine⟨λl b hb=>?_,λl b hb ho=>?_,λl b hb ho=>?_,λl b l' b' h1 o1 h2 o2 e=>?_,hk.nb,hk.z⟩
  ·rw[Heap.gI]at hb
   split at hb
   ·rename_i e;exact .inr e
   ·exact .inl (hi.hr.dom l b hb)
  ·rw[Heap.gI]at hb
   split at hb
   ·rename_i e;subst e
    cases hb
    refine⟨by rw[‹(r.new h.next w.heap.size C.size).blk h.next=w.heap.size›];exact hi.b,by simp[Ren.new],C,T,fz,by rw[‹(r.new h.next w.heap.size C.size).blk h.next=w.heap.size›];exact hnew,by simp[Ren.new],hfz,λi x hx=>?_⟩
    obtain⟨u,hu,hv⟩:=hcs i x hx
    exact⟨u,hu,VS.mono hle hv⟩
   ·exact hk.own l b hb ho
  ·rw[Heap.gI]at hb
   split at hb
   ·cases hb;cases ho
   ·exact hk.ro l b hb ho
  ·rw[Heap.gI]at h1 h2
   split at h1<;>split at h2
   ·omega
   ·rename_i e1 e2
    have:=hlt l' b' h2 o2
    rw[<-e,e1,hb]at this
    omega
   ·rename_i e1 e2
    have:=hlt l b h1 o1
    rw[e,e2,hb]at this
    omega
   ·exact hk.inj l b l' b' h1 o1 h2 o2 e
 ·refine⟨hle,ahC _,λl hl=>?_,ho,ht,hout,by omega,λb hb _=>hold b hb,λl hl _=>?_,λl b' hl hb=>?_,λl b' hl hb'=>?_⟩
  ·rcases hl with hl|hl
   ·exact .inl hl
   ·exact .inr (Nat.le_of_eq hl.symm)
  ·rw[Heap.gI,afc (by omega)]
  ·rw[Heap.gI,afc (by omega)]at hb
   exact⟨b',hb,rfl⟩
  ·rw[Heap.gI]at hb'
   split at hb'
   ·rename_i e
    cases hb'
    exact⟨rfl,.inl (by rw[e,hb];exact aeM _)⟩
   ·have:=hi.n l (hi.hr.dom l b' hb');omega
def Post (B fl:Nat)(h:Heap)(r:Ren)(w:World)(v:V)(h':Heap)(u:Value)(w':World):Prop:=
 ∃r',Inv h' r' B w'/\VV r' v u/\Adv fl h r w h' r' w'
theorem Post.same {B fl:Nat}{h:Heap}{r:Ren}{w:World}{v:V}{u:Value}(hi:Inv h r B w)(hv:VV r v u):Post B fl h r w v h u w:=⟨r,hi,hv,Adv.refl fl hi⟩
section
variable {P:Program} {ty:Tys} {h:Heap} {r:Ren} {B fl:Nat} {w:World}
theorem Pj (hi:Inv h r B w){l o n:Nat}{cs:List S}(hr:h.read l o n=some cs):∃us:List Value,au (VS r) cs us/\us.length=n/\∀j u,us[j]? =some u->w.cell? (r.at l (o+j))=some u:=by
 obtain⟨b,hb,he⟩:=aj hr
 obtain⟨hlen,rfl⟩:=ext_eq he
 have key:∀(l':List S) (p:Nat),(∀j x,l'[j]? =some x->nth b.cells (p+j)=some x)->∃us:List Value,au (VS r) l' us/\us.length=l'.length/\∀j u,us[j]? =some u->w.cell? (r.at l (p+j))=some u:=by
  intro l'
  induction l' with
  |nil=>exact λp _=>⟨[],trivial,rfl,λj u hu=>by simp at hu⟩
  |cons x l' ih=>
   intro p hp
   obtain⟨us,h1,h2,h3⟩:=ih (p+1) (λj y hy=>by have:=hp (j+1) y (by simpa using hy);rwa[show p+(j+1)=p+1+j by omega]at this)
   obtain⟨u,hu,hv⟩:=hi.hr.cell hb (hp 0 x rfl)
   refine⟨u::us,⟨hv,h1⟩,by simp[h2],λj v hj=>?_⟩
   cases j with
   |zero=>cases hj;exact hu
   |succ j=>have:=h3 j v (by simpa using hj);rwa[show p+1+j=p+(j+1)by omega]at this
 obtain⟨us,h1,h2,h3⟩:=key ((b.cells.drop o).take n) o (λj x hx=>by
  rw[aI]
  rw[afQ]at hx
  split at hx
  ·simpa[afR]using hx
  ·cases hx)
 refine⟨us,h1,?_,h3⟩
 rw[h2,afu,agE]
 omega
theorem qX (hi:Inv h r B w){l o n:Nat}{cs:List S}(hr:h.read l o n=some cs):∃us:List Value,au (VS r) cs us/\us.length=n/\∀W:World,(∀a,W.cell? a=w.cell? a)->(loadCells (r.at l o) n).run P W=.ok us.toArray W:=by
 obtain⟨us,h1,h2,h3⟩:=Pj hi hr
 refine⟨us,h1,h2,λW hW=>?_⟩
 rw[<-h2]
 exact run_loadCells_list W _ us (λj v hv=>by rw[hW,Addr.uf];exact h3 j v hv)
theorem Gh (hty:eY P ty)(hi:Inv h r B w){t:TypeId}{T:Ty}(hT:ty t=some T){l o:Nat}{cs:List S}(hr:h.read l o T.size=some cs){x:A}(hm:T.mk' cs=some x):
  ∃z,(Instr.loadAt t (.pointer (some (r.at l o)))).run P w=.ok z w/\VA r x z:=by
 obtain⟨i,d,z,hi',hd,hz,h1,h2,_⟩:=hty t T hT
 have hsz:(sizeOf t).run P w=.ok T.size w:=iC hty hT
 have ha:(isAgg t).run P w=.ok T.d.agg w:=by
  rw[h1];unfold isAgg;cases d<;>simp[ahG hd,dOf,D.agg]
 unfold Ty.mk' at hm
 cases hg:T.d.agg<;>simp only[hg,aeW,aeS]at hm
 ·obtain⟨us,g1,g2,g3⟩:=Pj hi hr
  split at hm<;>cases hm
  rename_i y
  cases us with
  |nil=>exact g1.elim
  |cons u us=>
   have hc:=g3 0 u rfl
   simp only[afS]at hc
   exact⟨u,by simp[Instr.loadAt,Instr.sureAddr,loadVar,ha,hg,hc],g1.1⟩
 ·cases hm
  obtain⟨us,g1,g2,g3⟩:=qX (P:=P) hi hr
  exact⟨.agg us.toArray,by simp[Instr.loadAt,Instr.sureAddr,loadVar,ha,hg,hsz,g3 w (λ_=>rfl)],us,rfl,g1⟩
theorem D5 {r:Ren}{cs:List S}{C:Array Value}(h:au (VS r) cs C.toList):∀i x,nth cs i=some x->∃u,C[i]? =some u/\VS r x u:=λi x hx=>by
 obtain⟨u,hu,hv⟩:=au.nth h hx
 exact⟨u,by simpa using hu,hv⟩
theorem NW {r:Ren}{cs:List S}{us:List Value}(h:au (VS r) cs us)(Z:Array Value):∀i x,nth cs i=some x->∃u,(us.toArray++Z)[i]? =some u/\VS r x u:=λi x hx=>by
 obtain⟨u,hu,hv⟩:=au.nth h hx
 have hlt:i<us.length:=(aeU.1 hu).1
 exact⟨u,by rw[Array.getElem?_append_left (by simpa using hlt)];simpa using hu,hv⟩
theorem Gs (hi:Inv h r B w){cs:List S}{C:Array Value}(hcs:∀i x,nth cs i=some x->∃u,C[i]? =some u/\VS r x u)(e:TypeId)(fl:Nat):
  Inv (h.alloc cs) (r.new h.next w.heap.size C.size) B (w.alloc (.cells C e))/\Adv fl h r w (h.alloc cs) (r.new h.next w.heap.size C.size) (w.alloc (.cells C e)):=
 hi.new (w1:=w.alloc (.cells C e)) (fz:=(0,0)) rfl rfl rfl (by simp) (λb hb=>ahX w _ hb) (ahY w _) (λi _=>by simp) hcs fl
theorem NS (hi:Inv h r B w){cs:List S}{C:Array Value}(hcs:∀i x,nth cs i=some x->∃u,C[i]? =some u/\VS r x u)(e:TypeId)(fl:Nat):
  Inv (h.alloc cs) (r.new h.next w.heap.size C.size) B (w.drew.alloc (.cells C e))/\Adv fl h r w (h.alloc cs) (r.new h.next w.heap.size C.size) (w.drew.alloc (.cells C e)):=
 hi.new (w1:=w.drew.alloc (.cells C e)) (fz:=(0,0)) rfl rfl rfl (by simp) (λb hb=>ahX w.drew _ hb) (ahY w.drew _) (λi _=>by simp) hcs fl
theorem rep_succ {α:Type}(n:Nat)(l:List α):rep (n+1) l=l++rep n l:=rfl
theorem Qh {α:Type}(l:List α):∀n,rep n l++l=l++rep n l
 |0=>by show[]++l=l++[];simp
 |n+1=>by rw[rep_succ,af9,Qh l n]
theorem yG {α:Type}[Inhabited α](Z:Array α)(hz:0<Z.size):∀n,(aik (n*Z.size)).map (λi=>Z[i%Z.size]!)=rep n Z.toList
 |0=>by simp;rfl
 |n+1=>by
  rw[ahd,List.range_add,afX,yG Z hz n,rep_succ,<-Qh]
  congr 1
  rw[agp]
  apply List.ext_getElem
  ·simp
  ·intro i h1 h2
   simp at h1
   simp[ahr h1,h1]
theorem Cb {α β:Type}{R:α->β->Prop}{xs:List α}{ys:List β}(h:au R xs ys):∀n,au R (rep n xs) (rep n ys)
 |0=>trivial
 |n+1=>by rw[rep_succ,rep_succ];exact h.app (Cb h n)
theorem vw {E:Ty}(h:okE E=true):E.bytes<=65536/\0<E.size/\E.zero.length=E.size:=by
 unfold okE at h
 simp only[aeI,ag3,ah1,ne_eq,ag4]at h
 exact⟨aff h.1.1,ahn h.1.2,h.2⟩
theorem Zw (hty:eY P ty){t:TypeId}{T:Ty}(hT:ty t=some T):∃z:Value,(∀r,au (VS r) T.zero z.cells.toList)/\(Instr.alloc t true (.tuple #[])).run P w=.ok (.pointer (some ⟨w.heap.size,0,none⟩)) (w.alloc (.cells z.cells t)):=by
 obtain⟨i,d,z,hi,hd,hz,h1,h2,h3,h4,h5⟩:=hty t T hT
 exact⟨z,h5,by simp[Instr.alloc,zeroValue,typeInfo,hi,hz,newVar,newRow]⟩
theorem WT (r:Ren)(n b c:Nat):VV (r.new n b c) (V.s (.ptr n 0)) (.pointer (some ⟨b,0,none⟩)):=⟨.inr rfl,by rw[Ren.Tv]⟩
theorem a2j (r:Ren)(l b c n z q:Nat)(hz:0<z)(hn:n<=q):VV (r.new l b c) (V.s (.sl l 0 n z (some q))) (.slice (some ⟨b,0,none⟩) n q):=⟨.inr rfl,hz,hn,by rw[Ren.Tv]⟩
theorem Vu (r:Ren)(l b n z q:Nat)(hz:0<z)(hn:n<=q)(hq:q<=maxLen):VV (r.new l b (q*z)) (V.s (.sl l 0 n z none)) (.slice (some ⟨b,0,none⟩) n q):=by
 have e:((r.new l b (q*z)).cap l-0)/z=q:=by simp[Ren.new,Nat.mul_div_cancel _ hz]
 exact⟨.inr rfl,⟨hz,by rw[e];exact hq⟩,by rw[e];exact hn,by rw[e,Ren.Tv]⟩
theorem JM (hty:eY P ty)(hi:Inv h r B w){t:TypeId}{E:Ty}(hE:elemOf ty t=some E){len:Nat}{ps:List (Nat×A)}{qs:List (Nat×Value)}(hp:au (λp q=>p.1=q.1/\VA r p.2 q.2) ps qs)
  (hok:okE E=true) (hlen:len*E.size<=65536) {cs:List S} (hf:fill (λi=>some (i*E.size,E.size)) ps (rep len E.zero)=some cs) (fl:Nat):
  ∃u w',(Instr.buildSlice t len qs.toArray).run P w=.ok u w'/\Post B fl h r w (V.s (.sl h.next 0 len E.size (some len))) (h.alloc cs) u w':=by
 obtain⟨e,hd,hE'⟩:=jw hty hE
 obtain⟨i,d,z,hi',hd',hz,h1,h2,h3,h4,h5⟩:=hty e E hE'
 obtain⟨hb,hs,hzl⟩:=vw hok
 have hzs:z.cells.size=E.size:=by have:=(h5 r).len;simp at this;omega
 have hsz:=iC (w:=w) hty hE'
 have hzr:(zeroValue e).run P w=.ok z w:=by simp[zeroValue,typeInfo,hi',hz]
 have hc0:au (VS r) (rep len E.zero) ((Array.range (len*E.size)).map (λj=>z.cells[j%z.cells.size]!)).toList:=by
  have:=yG z.cells (by omega) len
  rw[hzs]at this
  simp only[ahs,aho,hzs,this]
  exact Cb (h5 r) len
 obtain⟨D,hD1,hD2⟩:=FV (r:=r) _ hp hc0 hf
 obtain⟨g1,g2⟩:=Gs hi (D5 hD2) e fl
 refine⟨.slice (some ⟨w.heap.size,0,none⟩) len len,w.alloc (.cells D e),?_,_,g1,?_,g2⟩
 ·have h24:¬(len*E.size>2^24):=by omega
  by_cases h0:len*E.size=0
  ·have e0:len=0:=by rcases Nat.mul_eq_zero.1 h0 with h|h<;>omega
   subst e0
   have hz0:∀f:Nat->Value,(Array.range (0*E.size)).map f=#[]:=λf=>by apply agX;simp
   rw[hz0]at hD1
   simp only[Instr.buildSlice,ahJ,ahG hd,ahH,hsz,afc h24,afm h0,ahL,hz0,hD1]
   simp[newRow]
  ·simp only[Instr.buildSlice,ahJ,ahG hd,ahH,hsz,afc h24,afc h0,hzr,ahL,hD1]
   simp[newRow]
 ·exact a2j r _ _ _ _ _ _ hs (aeM _)
theorem OW (hty:eY P ty)(hi:Inv h r B w){t:TypeId}{E:Ty}(hE:elemOf ty t=some E){n c:Nat}(hok:okE E=true)(hnc:n<=c)(hc:c<=65536)(kl kc:IntKind)(fl:Nat):
  ∃u w',(Instr.makeSlice t (.int kl n) (.int kc c)).run P w=.ok u w'/\Post B fl h r w (V.s (.sl h.next 0 n E.size (some c))) (h.alloc (rep c E.zero)) u w':=by
 obtain⟨e,hd,hE'⟩:=jw hty hE
 obtain⟨i,d,z,hi',hd',hz,h1,h2,h3,h4,h5⟩:=hty e E hE'
 obtain⟨hb,hs,hzl⟩:=vw hok
 have hzs:z.cells.size=E.size:=by have:=(h5 r).len;simp at this;omega
 have hmul:i.bytes*c<=65536*65536:=agD (by omega) hc
 have hm:(i.bytes:Int)*(c:Int)<=281474976710656:=by
  have:((i.bytes*c:Nat):Int)<=281474976710656:=by omega
  rwa[Int.natCast_mul]at this
 have hr:=run_make (P:=P) w t e i z hd hi' hz kl kc n c (by omega) (by omega) hm (by omega)
 have hc0:au (VS r) (rep c E.zero) (madeCells z.cells (c*i.size)).toList:=by
  have:=yG z.cells (by omega) c
  rw[hzs]at this
  unfold madeCells
  rw[<-h2]
  simp only[ahs,aho,hzs,this]
  exact Cb (h5 r) c
 obtain⟨g1,g2⟩:=Gs hi (D5 hc0) e fl
 refine⟨_,_,by simpa using hr,_,g1,?_,g2⟩
 exact a2j r _ _ _ _ _ _ hs hnc
theorem a9Y (hty:eY P ty){t:TypeId}(h:u8T ty t=true):∃e,P.underlying t=some (.slice e)/\P.underlying e=some (.int .u8):=by
 unfold u8T at h
 cases hE:elemOf ty t with
 |none=>rw[hE]at h;cases h
 |some E=>
  rw[hE]at h
  simp only at h
  obtain⟨e,hd,hE'⟩:=jw hty hE
  obtain⟨i,d,z,hi',hd',hz,h1,_⟩:=hty e E hE'
  split at h
  ·rename_i hD
   rw[hD]at h1
   exact⟨e,hd,hd'.trans (by rw[FY h1.symm])⟩
  ·cases h
theorem WY {r:Ren}:∀{cs:List S} {bs:List UInt8} {us:List Value},rE u8S cs=some bs->au (VS r) cs us->∃ns:List Int,us=ns.map (Value.int .u8)/\bs=ns.map λn=>UInt8.ofNat n.toNat
 |[],bs,[],h,_=>by cases h;exact⟨[],rfl,rfl⟩
 |[],_,_::_,_,h=>h.elim
 |_::_,_,[],_,h=>h.elim
 |c::cs,bs,u::us,h,k=>by
  rw[lQ]at h
  obtain⟨b,hb,h⟩:=aj h
  obtain⟨bs',hbs,h⟩:=aj h
  cases h
  obtain⟨ns,rfl,rfl⟩:=WY hbs k.2
  unfold u8S at hb
  split at hb<;>cases hb
  have e:=k.1
  cases e
  exact⟨_::ns,rfl,rfl⟩
theorem PG:∀(ns:List Int) (b:ByteArray),ns.foldl (λr n=>r.push (UInt8.ofNat n.toNat)) b=⟨(b.data.toList++ns.map λn=>UInt8.ofNat n.toNat).toArray⟩
 |[],b=>by simp
 |n::ns,b=>by
  rw[ahy,PG ns]
  congr 1
  apply agX
  simp[ByteArray.push]
theorem a3r (hty:eY P ty)(hi:Inv h r B w){src dst:TypeId}(hs:u8T ty src=true)(hd:nV ty dst=true){x:S}{u:Value}(hu:VS r x u){v:V}{h':Heap}(hh:strOf h x=some (v,h')):
  h'=h/\∃z,(convert src dst u).run P w=.ok z w/\VV r v z:=by
 obtain⟨e,h1,h2⟩:=a9Y hty hs
 have h3:=N8 hty hd
 unfold strOf at hh
 split at hh
 ·cases hh
  cases hu
  exact⟨rfl,_,run_convert_bytes_nil w src e h1 h2 0 0 dst h3,rfl⟩
 ·cases hh
  obtain⟨a,c,rfl⟩:=hu
  refine⟨rfl,.string ByteArray.empty,?_,rfl⟩
  rw[run_convert_bytes_string w src dst e _ 0 c h1 h2 h3,run_bytesToString w a 0 c [] (by simp[loadCells,loadCellsFrom,ahL])]
  rfl
 ·rename_i l o n z c
  cases hz:(z==1)<;>rw[hz]at hh<;>simp only[aeW,aeS]at hh
  ·cases hh
  obtain⟨cs,hcs,hh⟩:=aj hh
  obtain⟨bs,hbs,hh⟩:=aj hh
  cases hh
  obtain⟨us,g1,g2,g3⟩:=qX (P:=P) hi hcs
  obtain⟨ns,rfl,rfl⟩:=WY hbs g1
  have:∃cc,u=.slice (some (r.at l o)) n cc:=by
   cases c with
   |none=>exact⟨_,hu.2.2.2⟩
   |some c=>exact⟨_,hu.2.2.2⟩
  obtain⟨cc,rfl⟩:=this
  refine⟨rfl,_,by rw[run_convert_bytes_string w src dst e _ n cc h1 h2 h3,run_bytesToString w _ n cc ns (by have:=g3 w (λ_=>rfl);simpa using this)],?_⟩
  show Value.string _=Value.string _
  rw[PG]
  simp
 ·cases hh
set_option linter.unusedVariables false in
theorem U8 (hty:eY P ty)(hi:Inv h r B w){src dst:TypeId}(hs:nV ty src=true)(hd:u8T ty dst=true){x:S}{u:Value}(hu:VS r x u){v:V}{h':Heap}(hh:bytesOf h x=some (v,h'))(fl:Nat):
  ∃z w',(convert src dst u).run P w=.ok z w'/\Post B fl h r w v h' z w':=by
 cases hh
theorem IW (hty:eY P ty){t:TypeId}(h:EL ty t=true):∃d,P.underlying t=some d/\(d=.string\/∃e,d=.slice e):=by
 unfold EL at h
 cases hT:ty t with
 |none=>rw[hT]at h;cases h
 |some T=>
  rw[hT]at h
  simp only at h
  obtain⟨i,d,z,hi,hd,hz,h1,_⟩:=hty t T hT
  refine⟨d,hd,?_⟩
  cases d<;>first |exact .inl rfl|exact .inr ⟨_,rfl⟩|(simp[h1,dOf]at h)
structure Src (P:Program)(w:World)(size k:Nat)(u:Value)(us:List Value):Prop where
 len:∀W,(Builtin.lenOf u).run P W=.ok k W
 cells:∀W:World,(∀a,W.cell? a=w.cell? a)->(Builtin.firstCells size k u).run P W=.ok us.toArray W
theorem zW {l o n z:Nat}{c:Option Nat}{u:Value}(h:VS r (.sl l o n z c) u):∃cc,u=.slice (some (r.at l o)) n cc/\r.ok l/\0<z/\n<=cc/\((c=some cc)\/(c=none/\cc=(r.cap l-o)/z)):=by
 cases c with
 |none=>exact⟨_,h.2.2.2,h.1,h.2.1.1,h.2.2.1,.inr ⟨rfl,rfl⟩⟩
 |some c=>exact⟨_,h.2.2.2,h.1,h.2.1,h.2.2.1,.inl rfl⟩
theorem src_ok (hi:Inv h r B w){x:S}{u:Value}(hu:VS r x u){k:Nat}{cs:List S}(hs:vk h x=some (k,cs)){size:Nat}(hl:cs.length=k*size):
  ∃us:List Value,au (VS r) cs us/\Src P w size k u us:=by
 unfold vk at hs
 split at hs
 ·rename_i l o n z c
  obtain⟨cs',hcs,hs⟩:=aj hs
  simp only[afI,agf]at hs
  obtain⟨rfl,rfl⟩:=hs
  obtain⟨us,g1,g2,g3⟩:=qX (P:=P) hi hcs
  obtain⟨cc,rfl,_⟩:=zW hu
  have:=g1.len
  refine⟨us,g1,λW=>rfl,λW hW=>?_⟩
  have e:n*z=n*size:=by omega
  rw[e]at g3
  exact g3 W hW
 ·cases hs
  obtain⟨a,c,rfl⟩:=hu
  exact⟨[],trivial,λW=>rfl,λW _=>by simp[Builtin.firstCells,loadCells,loadCellsFrom]⟩
 ·cases hs
  cases hu
  exact⟨[],trivial,λW=>rfl,λW _=>rfl⟩
 ·rename_i s
  cases hs
  cases hu
  refine⟨s.map λb=>.int .u8 b.toNat,?_,λW=>by simp[Builtin.lenOf,yI],λW _=>?_⟩
  ·clear hl
   induction s with
   |nil=>trivial
   |cons b s ih=>exact⟨rfl,ih⟩
  ·simp only[Builtin.firstCells,ahL]
   congr 1
   apply agX
   simp[agQ]
 ·cases hs
section
variable {t t2 e o:TypeId} {d2:TypeDesc} {i:TypeInfo} {z:Value} (ht:P.underlying t=some (.slice e)) (ht2:P.underlying t2=some d2) (hd2:d2=.string\/∃e,d2=.slice e) (hie:P.toTables.info? e=some i) (hz:i.zero=some z)
include ht ht2 hd2 hie
theorem Vm {n c k:Nat}{a:Addr}{u:Value}{us:List Value}(hs:Src P w i.size k u us)(hfit:n+k<=c):
  (Builtin.append_ #[t,t2] o #[.slice (some a) n c,u]).run P w=((storeCells (a.add (n*i.size)) us).run P w).andThen λ_ w'=>.ok (.slice (some a) (n+k) c) w':=by
 have h1:=hs.len w
 have h2:=hs.cells w (λ_=>rfl)
 rcases hd2 with rfl|⟨e',rfl⟩<;>simp[Builtin.append_,ahG ht,ahG ht2,sizeOf,typeInfo,hie,h1,hfit,h2]
theorem a0Y {u:Value}{us:List Value}(hs:Src P w i.size 0 u us):(Builtin.append_ #[t,t2] o #[.slice none 0 0,u]).run P w=.ok (.slice none 0 0) w:=by
 have h1:=hs.len w
 have h2:=hs.cells w (λ_=>rfl)
 rcases hd2 with rfl|⟨e',rfl⟩<;>simp[Builtin.append_,ahG ht,ahG ht2,sizeOf,typeInfo,hie,h1,h2]
include hz
theorem a4V {n c k:Nat}{a:Option Addr}{u:Value}{us olds:List Value}(hs:Src P w i.size k u us)(hgrow:c<n+k)(hn:n<=65536)(hk:k<=65536)(hb:i.bytes<=65536)
  (hold:(Builtin.firstCells i.size n (.slice a n c)).run P w.drew=.ok olds.toArray w.drew):
  (Builtin.append_ #[t,t2] o #[.slice a n c,u]).run P w=.ok (.slice (some ⟨w.heap.size,0,none⟩) (n+k) (grownCap w (n+k) c e))
   (w.drew.alloc (.cells (olds.toArray++us.toArray++Builtin.zeroCells z.cells (grownCap w (n+k) c e-(n+k))) e)):=by
 have h1:=hs.len w
 have h2:=hs.cells w.drew (λ_=>rfl)
 have hnf:¬(n+k<=c):=by omega
 have hmul:(n+k)*i.bytes<=131072*65536:=agD (by omega) hb
 have hfit:=growslice_fits (bytes:=i.bytes) hgrow (by omega)
 have h48:¬(281474976710656<Builtin.nextslicecap (n+k) c*i.bytes):=by omega
 have h63:¬(9223372036854775807<((n:Int)+(k:Int))):=by omega
 rcases hd2 with rfl|⟨e',rfl⟩<;>
  simp[Builtin.append_,ahG ht,ahG ht2,sizeOf,typeInfo,hie,h1,hnf,h48,h63,h2,hold,Question.forced,newRow,zeroValue,hz,grownCap]<;>
  (congr 2;apply agX;simp[af9])
end
theorem setCell_at {b o:Nat}{v:Value}{C:Array Value}{T:TypeId}{fz:Nat×Nat}(hb:w.heap[b]? =some (.cells C T fz)):
  (w.setCell ⟨b,o,none⟩ v).heap[b]? =some (.cells (C.setIfInBounds o v) T fz):=by
 simp[World.setCell,ahc,hb]
theorem RQ {b o k:Nat}{v:Value}(hk:k≠b):(w.setCell ⟨b,o,none⟩ v).heap[k]? =w.heap[k]? :=by
 simp[World.setCell,ahc,Ne.symm hk]
theorem setCells_at {b:Nat}{T:TypeId}{fz:Nat×Nat}:∀(vs:List Value) (o:Nat) (C:Array Value) (w:World),w.heap[b]? =some (.cells C T fz)->o+vs.length<=C.size->
  ∃D:Array Value,(w.setCells b o vs).heap[b]? =some (.cells D T fz)/\D.toList=C.toList.take o++(vs++C.toList.drop (o+vs.length))/\(∀k,k≠b->(w.setCells b o vs).heap[k]? =w.heap[k]?)/\
   (w.setCells b o vs).os=w.os/\(w.setCells b o vs).tape=w.tape/\(w.setCells b o vs).output=w.output/\(w.setCells b o vs).heap.size=w.heap.size
 |[],o,C,w,hb,_=>⟨C,hb,by simp,λ_ _=>rfl,rfl,rfl,rfl,rfl⟩
 |v::vs,o,C,w,hb,hl=>by
  simp only[afi]at hl
  obtain⟨D,h1,h2,h3,h4,h5,h6,h7⟩:=setCells_at vs (o+1) (C.setIfInBounds o v) (w.setCell ⟨b,o,none⟩ v) (setCell_at hb) (by simp;omega)
  refine⟨D,h1,?_,λk hk=>(h3 k hk).trans (RQ hk),h4,h5,h6,h7.trans (by simp[World.setCell])⟩
  rw[h2]
  simp only[agy]
  have e1:(C.toList.set o v).take (o+1)=C.toList.take o++[v]:=by
   rw[afN (by simp;omega)]
   simp[List.take_set_of_le]
  have e2:(C.toList.set o v).drop (o+1+vs.length)=C.toList.drop (o+(vs.length+1)):=by
   rw[List.drop_set_of_lt (by omega)]
   congr 1
   omega
  rw[e1,e2]
  simp
theorem Inv.write (hi:Inv h r B w){l:Nat}{b:Blk}(hb:h.get l=some b)(ho:b.own=true)(hfl:fl<=l){w1:World}{C:Array Value}{T:TypeId}{fz:Nat×Nat}{cs:List S}
  (h1:w1.os=w.os) (h2:w1.tape=w.tape) (h3:w1.output=w.output) (h4:w1.heap.size=w.heap.size) (h5:∀k,k≠r.blk l->w1.heap[k]? =w.heap[k]?)
  (h6:w1.heap[r.blk l]? =some (.cells C T fz)) (h7:C.size=r.cap l) (h8:∀i,i<=C.size->(fz.1<=i&&i<fz.2)=false) (h9:∀i x,nth cs i=some x->∃u,C[i]? =some u/\VS r x u):
  Inv ⟨Hp.set h.m l ⟨cs,true⟩,h.next⟩ r B w1/\Adv fl h r w ⟨Hp.set h.m l ⟨cs,true⟩,h.next⟩ r w1:=by
 have hget:∀k,Heap.get ⟨Hp.set h.m l ⟨cs,true⟩,h.next⟩ k=if k=l then some ⟨cs,true⟩else h.get k:=λk=>Hp.D6 _ _ _ _ hb k
 have hown:=hi.hr.own l b hb ho
 refine⟨⟨hi.n,by rw[h4];exact hi.b,?_⟩,?_⟩
 ·refine⟨λk c hk=>?_,λk c hk hc=>?_,λk c hk hc=>?_,λk c k' c' g1 o1 g2 o2 e=>?_,hi.hr.nb,λk hk=>(h5 k (by have:=hi.hr.nb;have:=hown.1;omega)).trans (hi.hr.z k hk)⟩
  ·rw[hget]at hk
   split at hk
   ·rename_i e;subst e;exact hi.hr.dom k b hb
   ·exact hi.hr.dom k c hk
  ·rw[hget]at hk
   split at hk
   ·rename_i e;subst e;cases hk
    exact⟨hown.1,hown.2.1,C,T,fz,h6,h7,h8,h9⟩
   ·rename_i e
    obtain⟨g1,g2,C',T',fz',g3,g4⟩:=hi.hr.own k c hk hc
    refine⟨g1,g2,C',T',fz',?_,g4⟩
    rw[h5 _ (λe'=>e (hi.hr.inj k c l b hk hc hb ho e'))]
    exact g3
  ·rw[hget]at hk
   split at hk
   ·cases hk;cases hc
   ·obtain⟨g1,g2⟩:=hi.hr.ro k c hk hc
    refine⟨g1,λi x hx=>?_⟩
    obtain⟨u,hu,hv⟩:=g2 i x hx
    have e:w1.cell? (r.at k i)=w.cell? (r.at k i):=ahI (h5 _ (by show r.blk k≠_;have:=hown.1;omega))
    exact⟨u,by rw[e];exact hu,hv⟩
  ·rw[hget]at g1 g2
   have key:∀k c,(if k=l then some (⟨cs,true⟩:Blk)else h.get k)=some c->c.own=true->∃c',h.get k=some c'/\c'.own=true:=λk c g o=>by
    split at g
    ·rename_i e;subst e;exact⟨b,hb,ho⟩
    ·exact⟨c,g,o⟩
   obtain⟨d,hd,od⟩:=key k c g1 o1
   obtain⟨d',hd',od'⟩:=key k' c' g2 o2
   exact hi.hr.inj k d k' d' hd od hd' od' e
 ·refine⟨Ren.le.refl r,aeM _,λ_ h=>.inl h,h1,h2,h3,by omega,λk _ hno=>h5 k (λe=>hno l b hb ho hfl e.symm),λk _ hkf=>?_,λk c _ hk=>?_,λk c hk hc=>?_⟩
  ·rw[hget,afc (by omega)]
  ·rw[hget]at hk
   split at hk
   ·rename_i e;subst e;cases hk;exact⟨b,hb,ho⟩
   ·exact⟨c,hk,rfl⟩
  ·rw[hget]at hc
   split at hc
   ·rename_i e;subst e
    have:=hi.n k (hi.hr.dom k b hb);omega
   ·have:=hi.n k (hi.hr.dom k c hc);omega
theorem Nw:∀{vs:List S} {us:List Value},au (VS r) vs us->∀v∈us,v.oneCell'=true
 |[],[],_=>λv hv=>by cases hv
 |[],_::_,h=>h.elim
 |_::_,[],h=>h.elim
 |_::_,_::_,h=>λv hv=>by
  rcases aeQ.1 hv with rfl|hv
  ·exact VS.one h.1
  ·exact Nw h.2 v hv
theorem UG (hi:Inv h r B w){l o:Nat}{b:Blk}(hb:h.get l=some b)(ho:b.own=true)(hfl:fl<=l){vs cs':List S}{us:List Value}(hu:au (VS r) vs us)(hl:lay b.cells o vs=some cs'):
  (storeCells (r.at l o) us).run P w=.ok () (w.setCells (r.blk l) o us)/\Inv ⟨Hp.set h.m l ⟨cs',true⟩,h.next⟩ r B (w.setCells (r.blk l) o us)/\Adv fl h r w ⟨Hp.set h.m l ⟨cs',true⟩,h.next⟩ r (w.setCells (r.blk l) o us):=by
 obtain⟨g1,g2,C,T,fz,g3,g4,g5,g6⟩:=hi.hr.own l b hb ho
 obtain⟨e1,rfl⟩:=UK hl
 have hlen:=hu.len
 have hbc:b.cells.length<=C.size:=by
  rcases agN b.cells.length with h0|h0
  ·omega
  ·obtain⟨u,hu',_⟩:=g6 (b.cells.length-1) (b.cells[b.cells.length-1]) (by rw[aI,aeK])
   have:=(aeN.1 hu').1
   omega
 have hone:=Nw hu
 rcases e1 with e1|e1
 ·subst e1
  cases us with
  |cons u us=>exact hu.elim
  |nil=>
   refine⟨rfl,?_⟩
   refine hi.write hb ho hfl rfl rfl rfl rfl (λ_ _=>rfl) g3 g4 g5 (λi x hx=>g6 i x ?_)
   simpa using hx
 ·have hfit:o+us.length<=C.size:=by omega
  obtain⟨D,d1,d2,d3,d4,d5,d6,d7⟩:=setCells_at us o C w g3 hfit
  have hst:=ai1 (P:=P) (r.blk l) o us 0 w (λj hj=>by
    have:o+j<C.size:=by omega
    simp[World.cell?,g3,this]) (λj hj=>by
    have:=g5 (o+0+j) (by omega)
    simp only[World.frozen?,g3]
    exact this) hone
  have hat:r.at l o=⟨r.blk l,o,none⟩:=by simp[Ren.at,g2]
  have hDs:D.size=C.size:=by
   have:=congrArg ain d2
   simp at this
   omega
  refine⟨by rw[hat];simpa using hst,?_⟩
  refine hi.write hb ho hfl d4 d5 d6 d7 d3 d1 (by rw[hDs,g4]) (by rw[hDs];exact g5) (λi x hx=>?_)
  have hi':i<b.cells.length:=by
   rw[aI]at hx
   have:=(aeU.1 hx).1
   simp at this
   omega
  have hD:∀j,D[j]? =(C.toList.take o++(us++C.toList.drop (o+us.length)))[j]? :=λj=>by rw[<-d2,afx]
  rw[hD]
  rw[aI]at hx
  by_cases c1:i<o
  ·rw[af5 (by simp;omega),ag5 c1]at hx
   rw[af5 (by simp;omega),ag5 c1]
   obtain⟨u,hu1,hu2⟩:=g6 i x (by rw[aI];exact hx)
   exact⟨u,by simpa using hu1,hu2⟩
  ·rw[af7 (by simp;omega)]at hx
   rw[af7 (by simp;omega)]
   have m1:(b.cells.take o).length=o:=by simp;omega
   have m2:(C.toList.take o).length=o:=by simp;omega
   rw[m1]at hx
   rw[m2]
   by_cases c2:i-o<vs.length
   ·rw[af5 c2]at hx
    rw[af5 (by omega)]
    exact au.nth hu (by rw[aI];exact hx)
   ·rw[af7 (by omega),afR]at hx
    rw[af7 (by omega),afR,<-hlen]
    obtain⟨u,hu1,hu2⟩:=g6 _ x (by rw[aI];exact hx)
    exact⟨u,by simpa using hu1,hu2⟩
def Weak (r:Ren)(h1 h2:Heap):Prop:=h2.next=h1.next/\∀l b2,h2.get l=some b2->∃b1,h1.get l=some b1/\b1.own=b2.own/\∀i x2,nth b2.cells i=some x2->∃x1,nth b1.cells i=some x1/\∀u,VS r x1 u->VS r x2 u
theorem Weak.inv {r:Ren}{h1 h2:Heap}{B:Nat}{w:World}(k:Weak r h1 h2)(i:Inv h1 r B w):Inv h2 r B w where
 n l hl:=by rw[k.1];exact i.n l hl
 b:=i.b
 hr:={
  dom:=λl b hb=>by obtain⟨b1,h,_⟩:=k.2 l b hb;exact i.hr.dom l b1 h
  own:=λl b hb ho=>by
   obtain⟨b1,h,e,hc⟩:=k.2 l b hb
   obtain⟨g1,g2,C,T,fz,g3,g4,g5,g6⟩:=i.hr.own l b1 h (e.trans ho)
   refine⟨g1,g2,C,T,fz,g3,g4,g5,λj x hx=>?_⟩
   obtain⟨x1,hx1,hv⟩:=hc j x hx
   obtain⟨u,hu,hv'⟩:=g6 j x1 hx1
   exact⟨u,hu,hv u hv'⟩
  ro:=λl b hb ho=>by
   obtain⟨b1,h,e,hc⟩:=k.2 l b hb
   obtain⟨g1,g2⟩:=i.hr.ro l b1 h (e.trans ho)
   refine⟨g1,λj x hx=>?_⟩
   obtain⟨x1,hx1,hv⟩:=hc j x hx
   obtain⟨u,hu,hv'⟩:=g2 j x1 hx1
   exact⟨u,hu,hv u hv'⟩
  inj:=λl b l' b' hb ho hb' ho' he=>by
   obtain⟨c,h,e,_⟩:=k.2 l b hb
   obtain⟨c',h',e',_⟩:=k.2 l' b' hb'
   exact i.hr.inj l c l' c' h (e.trans ho) h' (e'.trans ho') he
  nb:=i.hr.nb
  z:=i.hr.z }
theorem Weak.adv {fl:Nat}{r r':Ren}{h h1 h2:Heap}{w w':World}(k:Weak r' h1 h2)(hk:∀l,l<h.next->l<fl->h2.get l=h1.get l)(a:Adv fl h r w h1 r' w'):Adv fl h r w h2 r' w' where
 le:=a.le
 nn:=by rw[k.1];exact a.nn
 okn:=a.okn
 os:=a.os
 tape:=a.tape
 output:=a.output
 size:=a.size
 frame:=a.frame
 keep l hl hf:=(hk l hl hf).trans (a.keep l hl hf)
 old l b' hl hb:=by
  obtain⟨b1,h1,e,_⟩:=k.2 l b' hb
  obtain⟨c,hc,e'⟩:=a.old l b1 hl h1
  exact⟨c,hc,e'.trans e⟩
 fresh l b' hl hb:=by
  obtain⟨b1,h1,e,_⟩:=k.2 l b' hb
  obtain⟨g1,g2⟩:=a.fresh l b1 hl h1
  exact⟨e▸g1,g2⟩
theorem Adv.low {fl fl':Nat}{h h':Heap}{r r':Ren}{w w':World}(hle:fl<=fl')(a:Adv fl' h r w h' r' w'):Adv fl h r w h' r' w' where
 le:=a.le
 nn:=a.nn
 okn:=a.okn
 os:=a.os
 tape:=a.tape
 output:=a.output
 size:=a.size
 frame b hb hno:=a.frame b hb λl k hl ho hfl=>hno l k hl ho (afv hle hfl)
 keep l hl hf:=a.keep l hl (afe hf hle)
 old:=a.old
 fresh l b' hl hb:=by
  obtain⟨g1,g2⟩:=a.fresh l b' hl hb
  refine⟨g1,?_⟩
  rcases g2 with g2|⟨l0,b0,k1,k2,k3,k4⟩
  ·exact .inl g2
  ·exact .inr ⟨l0,b0,k1,k2,afv hle k3,k4⟩
theorem get_filter (g:Nat->Bool)(l:Nat):∀m:Hp,Hp.get (m.filter λp=>g p.1) l=if g l then Hp.get m l else none
 |[]=>by simp[Hp.get_nil]
 |p::m=>by
  rw[aio,Hp.gQ]
  cases hp:g p.1
  ·simp only[ah4,agA]
   rw[get_filter g l m]
   cases e:(p.1==l)
   ·rfl
   ·have e':p.1=l:=by simpa using e
    rw[<-e',hp]
    simp
  ·simp only[agL]
   rw[Hp.gQ,get_filter g l m]
   cases e:(p.1==l)
   ·rfl
   ·have e':p.1=l:=by simpa using e
    rw[<-e',hp]
    simp
theorem Zb (n:Nat)(rs:List A)(h:Heap)(r:Ren):Weak r h (X5 n rs h)/\∀l,l<n->(X5 n rs h).get l=h.get l:=by
 have key:∀l,(X5 n rs h).get l=if (ail l n||Ky l (SN h.m 1000 (Oz rs) []))then h.get l else none:=λl=>
  get_filter (λl=>ail l n||Ky l (SN h.m 1000 (Oz rs) [])) l h.m
 refine⟨⟨rfl,λl b2 hb=>?_⟩,λl hl=>?_⟩
 ·rw[key]at hb
  split at hb
  ·exact⟨b2,hb,rfl,λi x hx=>⟨x,hx,λ_ h=>h⟩⟩
  ·cases hb
 ·have hl':ail l n=true:=by rw[afM];exact hl
  rw[key,hl']
  simp
theorem Xp {r:Ren}{i:Nat}:∀{cs out:List S} {j:Nat},aay i j cs=some out->out.length=cs.length/\∀c x,nth cs c=some x->∃y,nth out c=some y/\
  (∀u,VS r x u->VS r y (if Base.rho i=((j+c:Nat):Int)then .bool true else u))
 |[],out,j,h=>by cases h;exact⟨rfl,λc x hx=>by cases hx⟩
 |a::cs,out,j,h=>by
  obtain⟨y,hy,h⟩:=aj (show ob _ _=some out from h)
  obtain⟨q,hq,h⟩:=aj h
  cases h
  obtain⟨h1,h2⟩:=Xp hq
  refine⟨by simp[h1],λc x hx=>?_⟩
  cases c with
  |zero=>
   cases hx
   refine⟨y,rfl,λu hu=>?_⟩
   rw[afS]
   split at hy<;>cases hy
   ·cases hu;split<;>rfl
   ·cases hu
    by_cases he:Base.rho i=(j:Int)
    ·rw[afm he];simp[VS,he]
    ·rw[afc he];simp[VS,he]
   ·cases hu
    by_cases he:Base.rho i=(j:Int)
    ·rw[afm he];simp[VS,he]
    ·rw[afc he];simp[VS,he]
  |succ c=>
   obtain⟨z,hz,hv⟩:=h2 c x hx
   refine⟨z,hz,λu hu=>?_⟩
   have:=hv u hu
   rwa[show j+1+c=j+(c+1)from by omega]at this
theorem a3s {x y:S}(h:a4Z x y=true):x=y:=by
 unfold a4Z at h
 split at h
 ·simp only[aeI,ag4,af6]at h
  rw[h.1,h.2]
 ·simp only[aeI,ag4]at h
  rw[h.1,aeX h.2]
 ·cases h
theorem Eu:∀{a b:List S},wO a b=true->a=b
 |[],[],_=>rfl
 |a::r,b::s,h=>by
  simp only[wO,aeI]at h
  rw[a3s h.1,Eu h.2]
 |[],_::_,h=>by cases h
 |_::_,[],h=>by cases h
theorem Gu {cs:List S}{i m:Nat}:∀{l:List (List S×Nat×Nat)},Tc cs i l=some m->(cs,i,m)∈l
 |[],h=>by cases h
 |p::l,h=>by
  have h:(bif aic p.2.1 i&&wO p.1 cs then some p.2.2 else Tc cs i l)=some m:=h
  cases hc:(aic p.2.1 i&&wO p.1 cs)<;>rw[hc]at h<;>simp only[aeW,aeS]at h
  ·exact afd _ (Gu h)
  ·simp only[aeI]at hc
   cases h
   rw[<-Eu hc.2,<-aeX hc.1]
   exact afh ..
theorem Jf {cs ds:List S}{i m:Nat}:∀{l:List (List S×Nat×Nat×List S)},UD cs i m l=some ds->(cs,i,m,ds)∈l
 |[],h=>by cases h
 |p::l,h=>by
  have h:(bif aic p.2.1 i&&aic p.2.2.1 m&&wO p.1 cs then some p.2.2.2 else UD cs i m l)=some ds:=h
  cases hc:(aic p.2.1 i&&aic p.2.2.1 m&&wO p.1 cs)<;>rw[hc]at h<;>simp only[aeW,aeS]at h
  ·exact afd _ (Jf h)
  ·simp only[aeI]at hc
   cases h
   rw[<-Eu hc.2,<-aeX hc.1.1,<-aeX hc.1.2]
   exact afh ..
theorem i64_is {r:Ren}{x:S}{a:Int}(h:x.i64 Base.rho=some a){u:Value}:VS r x u↔u=.int .i64 a:=by
 unfold S.i64 at h
 split at h<;>cases h<;>exact Iff.rfl
theorem Yn {r:Ren}{i:Nat}{v:S}{cs out:List S}(h:Ti i v cs=some out){u':Value}(hv:VS r v u'):u'.cells=#[u']/\u'.oneCell'=true/\out.length=cs.length/\∀c x,nth cs c=some x->∃y,nth out c=some y/\
  (∀u,VS r x u->VS r y (if Base.rho i=((c:Nat):Int)then u' else u)):=by
 unfold Ti at h
 split at h
 ·cases hv
  obtain⟨h1,h2⟩:=Xp (r:=r) h
  exact⟨rfl,rfl,h1,λc x hx=>by simpa using h2 c x hx⟩
 ·rename_i m
  cases hv
  obtain⟨h1,h2⟩:=Base.ok.xt.sr _ _ _ _ (Jf h)
  refine⟨rfl,rfl,h1,λc x hx=>?_⟩
  rw[aI]at hx
  have hc:c<out.length:=by have:=(aeU.1 hx).1;omega
  obtain⟨a,e1,e2⟩:=h2 c x out[c] hx (aeK hc)
  refine⟨out[c],by rw[aI];exact aeK hc,λu hu=>?_⟩
  rw[i64_is e2]
  have:=(i64_is e1).1 hu
  split
  ·rfl
  ·exact this
 ·cases h
theorem a0b {P:Program}{ty:Tys}(hi:Inv h r B w){t:TypeId}{x v:S}{u u':Value}(hu:VS r x u)(hv:VS r v u'){q:V}{h':Heap}(hh:Oa ty h fl t x v=some (q,h')):
  ∃T l k w',ty t=some T/\T.size=1/\u=.pointer (some (r.at l k))/\u'.cells=#[u']/\(storeCells (r.at l k) [u']).run P w=.ok () w'/\q=undef/\Inv h' r B w'/\Adv fl h r w h' r w':=by
 unfold Oa at hh
 split at hh
 ·rename_i l o n i
  obtain⟨T,hT,hh⟩:=aj hh
  cases hc:(T.size==1&&aib fl l)<;>rw[hc]at hh<;>simp only[aeW,aeS]at hh
  ·cases hh
  simp only[aeI,ag4]at hc
  obtain⟨b,hb,hh⟩:=aj hh
  cases hbo:b.own<;>rw[hbo]at hh<;>simp only[aeW,aeS]at hh
  ·cases hh
  obtain⟨cs,hcs,hh⟩:=aj hh
  obtain⟨ds,hds,hh⟩:=aj hh
  obtain⟨es,hes,hh⟩:=aj hh
  cases hh
  obtain⟨hl,k1,k2,rfl⟩:=hu
  obtain⟨hu1,hu2,a1,a2⟩:=Yn (r:=r) hds hv
  obtain⟨m,hm⟩:∃m:Nat,Base.rho i=m:=⟨_,(ah0 k1).symm⟩
  have hmn:m<n:=by omega
  rw[hm,afO]
  obtain⟨g1,g2,C,T',fz,g3,g4,g5,g6⟩:=hi.hr.own l b hb hbo
  obtain⟨e1,hcs'⟩:=ext_eq hcs
  have e1:o+n<=b.cells.length:=by omega
  have hcl:cs.length=n:=by rw[hcs'];simp;omega
  obtain⟨_,rfl⟩:=UK hes
  have hbc:b.cells.length<=C.size:=by
   obtain⟨u,hu',_⟩:=g6 (b.cells.length-1) (b.cells[b.cells.length-1]'(by omega)) (by rw[aI,aeK])
   have:=(aeN.1 hu').1
   omega
  have hfit:o+m+[u'].length<=C.size:=by simp;omega
  obtain⟨D,d1,d2,d3,d4,d5,d6,d7⟩:=setCells_at [u'] (o+m) C w g3 hfit
  have hst:=ai1 (P:=P) (r.blk l) (o+m) [u'] 0 w (λj hj=>by
    have hj:j<1:=hj
    have:o+m+j<C.size:=by simp at hfit;omega
    simp[World.cell?,g3,this]) (λj hj=>by
    have:=g5 (o+m+0+j) (by simp at hfit hj;omega)
    simp only[World.frozen?,g3]
    exact this) (by intro v hv;simp at hv;subst hv;exact hu2)
  have hat:r.at l (o+m)=⟨r.blk l,o+m,none⟩:=by simp[Ren.at,g2]
  have hD:∀j,D[j]? =if j=o+m then some u' else C[j]? :=λj=>by
   rw[<-afx,d2]
   simp at hfit
   by_cases c:j=o+m
   ·subst c
    rw[afm rfl,af7 (by simp;omega)]
    simp
    rw[Nat.min_eq_left (by omega),Nat.sub_self]
    rfl
   ·rw[afc c]
    by_cases c1:j<o+m
    ·rw[af5 (by simp;omega),ag5 c1]
     simp
    ·rw[af7 (by simp;omega)]
     have:(C.toList.take (o+m)).length=o+m:=by simp;omega
     rw[this]
     obtain⟨d,hd⟩:∃d,j-(o+m)=d+1:=⟨j-(o+m)-1,by omega⟩
     rw[hd]
     simp
     congr 1
     omega
  have hDs:D.size=C.size:=by
   have:=congrArg ain d2
   simp at this hfit
   omega
  refine⟨T,l,o+m,_,hT,hc.1,rfl,hu1,by rw[hat];simpa using hst,rfl,?_⟩
  refine hi.write hb hbo (aff hc.2) d4 d5 d6 d7 d3 d1 (by rw[hDs,g4]) (by rw[hDs];exact g5) (λj x hx=>?_)
  rw[hD]
  rw[aI]at hx
  by_cases c1:j<o
  ·rw[af5 (by simp;omega),ag5 c1]at hx
   rw[afc (by omega)]
   exact g6 j x (by rw[aI];exact hx)
  ·rw[af7 (by simp;omega)]at hx
   have m1:(b.cells.take o).length=o:=by simp;omega
   rw[m1]at hx
   by_cases c2:j-o<ds.length
   ·rw[af5 c2]at hx
    have hlt:j-o<cs.length:=by omega
    obtain⟨y,hy,hv⟩:=a2 (j-o) cs[j-o] (by rw[aI,aeK])
    rw[aI,hx]at hy
    cases hy
    have hb':b.cells[j]? =some cs[j-o]:=by
     have h1:cs[j-o]? =b.cells[j]? :=by
      have h2:=congrArg (λl:List S=>l[j-o]?) hcs'
      simp only[ag5 (show j-o<n by omega),afR,show o+(j-o)=j from by omega]at h2
      exact h2
     rw[<-h1]
     exact aeK hlt
    obtain⟨u,hu1,hu2⟩:=g6 j _ (by rw[aI];exact hb')
    have:=hv u hu2
    rw[hm]at this
    by_cases c3:j=o+m
    ·rw[afm c3]
     rw[afm (by omega)]at this
     exact⟨_,rfl,this⟩
    ·rw[afc c3]
     rw[afc (by omega)]at this
     exact⟨u,hu1,this⟩
   ·rw[af7 (by omega),afR]at hx
    rw[afc (by omega)]
    refine g6 j x ?_
    rw[aI,<-hx]
    congr 1
    omega
 ·cases hh
theorem zV {E:Ty}{k:Nat}{cs:List S}(h:EX E k cs=true):okE E=true/\k<=65536/\cs.length=k*E.size:=by
 unfold EX at h
 simp only[aeI,ag4]at h
 exact⟨h.1.1,aff h.1.2,h.2⟩
theorem Jp (Z:Array Value)(n:Nat):(Builtin.zeroCells Z n).size=n*Z.size:=by simp[Builtin.zeroCells]
theorem NH (hty:eY P ty)(hi:Inv h r B w){t t2:TypeId}{E:Ty}(hE:elemOf ty t=some E)(hs2:EL ty t2=true){n c k:Nat}{a:Option Addr}{u:Value}{old cs:List S}{olds us:List Value}(hk:EX E k cs=true)
  (hsrc:Src P w E.size k u us) (hus:au (VS r) cs us) (holds:au (VS r) old olds) (hol:old.length=n*E.size) (hgrow:c<n+k) (hn:n<=65536)
  (hold:(Builtin.firstCells E.size n (.slice a n c)).run P w.drew=.ok olds.toArray w.drew) (o:TypeId) (fl:Nat):
  ∃v w',(Builtin.append_ #[t,t2] o #[.slice a n c,u]).run P w=.ok v w'/\Post B fl h r w (V.s (.sl h.next 0 (n+k) E.size none)) (h.alloc (old++cs)) v w':=by
 obtain⟨e,hd,hE'⟩:=jw hty hE
 obtain⟨d2,hd2,hd2'⟩:=IW hty hs2
 obtain⟨i,d,z,hi',hd',hz,h1,h2,h3,h4,h5⟩:=hty e E hE'
 obtain⟨hok,hk1,hk2⟩:=zV hk
 obtain⟨hb,hs,hzl⟩:=vw hok
 have hzs:z.cells.size=E.size:=by have:=(h5 r).len;simp at this;omega
 rw[h2]at hsrc hold
 have hrun:=a4V (P:=P) (w:=w) (o:=o) hd hd2 hd2' hi' hz hsrc hgrow hn hk1 (by omega) hold
 have hcap:=grownCap_ge w (n+k) c e
 have hlen1:=holds.len
 have hlen2:=hus.len
 have hcs:=NW (holds.app hus) (Builtin.zeroCells z.cells (grownCap w (n+k) c e-(n+k)))
 have e0:(olds++us).toArray=olds.toArray++us.toArray:=by simp
 rw[e0]at hcs
 obtain⟨g1,g2⟩:=NS hi hcs e fl
 have hsize:(olds.toArray++us.toArray++Builtin.zeroCells z.cells (grownCap w (n+k) c e-(n+k))).size=grownCap w (n+k) c e*E.size:=by
  simp only[Array.size_append,afw,Jp,hzs]
  rw[<-hlen1,<-hlen2,hol,hk2,<-ahD,<-ahD]
  congr 1
  omega
 refine⟨_,_,hrun,_,g1,?_,g2⟩
 rw[hsize]
 exact Vu r h.next w.heap.size (n+k) E.size _ hs hcap (grownCap_le_maxLen _ _ _ _ (by simp only[maxLen];omega))
theorem a5Y (hty:eY P ty)(hi:Inv h r B w){t t2:TypeId}{E:Ty}(hE:elemOf ty t=some E)(hs2:EL ty t2=true){s x:S}{us ux:Value}(hus:VS r s us)(hux:VS r x ux){k:Nat}{cs:List S}(hsrc:vk h x=some (k,cs))
  (hk:EX E k cs=true) {v:V} {h':Heap} (hq:aaL h E k cs s=some (v,h')) (o:TypeId) (fl:Nat):∃z w',(Builtin.append_ #[t,t2] o #[us,ux]).run P w=.ok z w'/\Post B fl h r w v h' z w':=by
 obtain⟨e,hd,hE'⟩:=jw hty hE
 obtain⟨d2,hd2,hd2'⟩:=IW hty hs2
 obtain⟨i,d,z,hi',hd',hz,h1,h2,h3,h4,h5⟩:=hty e E hE'
 obtain⟨hok,hk1,hk2⟩:=zV hk
 obtain⟨hb,hs,hzl⟩:=vw hok
 obtain⟨news,g1,g2⟩:=src_ok (P:=P) hi hux hsrc hk2
 have same:∀(l o' n q:Nat) (c:Option Nat),VS r (.sl l o' n q c) us->k=0->∃z w',(Builtin.append_ #[t,t2] o #[us,ux]).run P w=.ok z w'/\Post B fl h r w (V.s (.sl l o' n q c)) h z w':=by
  intro l o' n q c hv h0
  subst h0
  have hv0:=hv
  obtain⟨cc,rfl,hl,hz0,hn,_⟩:=zW hv
  have hnil:news=[]:=by
   have:=g1.len
   rw[hk2]at this
   exact afA (by omega)
  subst hnil
  have hr:=Vm (P:=P) (w:=w) (o:=o) (a:=r.at l o') (c:=cc) hd hd2 hd2' hi' (h2▸g2) (n:=n) (by omega)
  exact⟨_,_,by rw[hr];simp[storeCells],Post.same hi hv0⟩
 unfold aaL at hq
 split at hq
 ·cases hus
  cases h0:(k==0)<;>rw[h0]at hq<;>simp only[aeW,aeS]at hq
  ·have hk0:k≠0:=by simpa using h0
   cases hq
   have:=NH hty hi hE hs2 (a:=none) (n:=0) (c:=0) (old:=[]) (olds:=[]) hk g2 g1 trivial (by simp) (by omega) (by omega) rfl o fl
   simpa using this
  ·cases hq
   have hk0:k=0:=by simpa using h0
   subst hk0
   exact⟨_,_,a0Y hd hd2 hd2' hi' (h2▸g2),Post.same hi rfl⟩
 ·rename_i l o' n q c
  cases hc:(q==E.size&&aib n 65536)<;>rw[hc]at hq<;>simp only[aeW,aeS]at hq
  ·cases hq
  simp only[aeI,ag4]at hc
  obtain⟨rfl,hn⟩:=hc
  have hn:=aff hn
  cases h0:(k==0)<;>rw[h0]at hq<;>simp only[aeW,aeS]at hq
  ·cases hf:aib (n+k) c<;>rw[hf]at hq<;>simp only[aeW,aeS]at hq
   ·obtain⟨old,hold,hq⟩:=aj hq
    cases hq
    obtain⟨olds,o1,o2,o3⟩:=qX (P:=P) hi hold
    obtain⟨cc,rfl,hl,hz0,hn',hcc⟩:=zW hus
    have hcc:cc=c:=by rcases hcc with e|⟨e,_⟩<;>cases e;rfl
    subst hcc
    have hlt:cc<n+k:=by
     rcases afp cc (n+k)with h|h
     ·exact h
     ·rw[agb h]at hf;cases hf
    exact NH hty hi hE hs2 (a:=some (r.at l o')) hk g2 g1 o1 (by have:=o1.len;omega) hlt hn (o3 w.drew (λ_=>rfl)) o fl
   ·cases hq
  ·cases hq
   exact same _ _ _ _ _ hus (by simpa using h0)
 ·rename_i l o' n q
  cases hc:(q==E.size&&aib n 65536&&k==0)<;>rw[hc]at hq<;>simp only[aeW,aeS]at hq
  ·cases hq
  cases hq
  simp only[aeI,ag4]at hc
  exact same _ _ _ _ _ hus hc.2
 ·cases hq
theorem a3x (hty:eY P ty)(hi:Inv h r B w){t:TypeId}{E:Ty}(hE:elemOf ty t=some E){s:S}{us:Value}(hus:VS r s us){v:V}{h':Heap}(hq:UJ h fl E s=some (v,h'))(o:TypeId):∃w',(Builtin.clear_ #[t] o #[us]).run P w=.ok Go.undef w'/\Post B fl h r w v h' Go.undef w':=by
 obtain⟨e,hd,hE'⟩:=jw hty hE
 obtain⟨i,d,z,hi',hd',hz,h1,h2,h3,h4,h5⟩:=hty e E hE'
 unfold UJ at hq
 split at hq
 ·cases hus;cases hq
  exact⟨w,by simp[Builtin.clear_,ahG hd,Go.undef],Post.same hi VS.undef⟩
 ·obtain⟨a,c,rfl⟩:=hus
  cases hq
  exact⟨w,by simp[Builtin.clear_,ahG hd,Go.undef],Post.same hi VS.undef⟩
 ·rename_i l o' n q c
  obtain⟨cc,rfl,hl,hz0,hn',hcc⟩:=zW hus
  cases h0:(n==0)<;>rw[h0]at hq<;>simp only[aeW,aeS]at hq
  ·cases hc:(q==E.size&&okE E&&aib fl l)<;>rw[hc]at hq<;>simp only[aeW,aeS]at hq
   ·cases hq
   simp only[aeI,ag4]at hc
   obtain⟨⟨rfl,hok⟩,hfl⟩:=hc
   obtain⟨hb,hs,hzl⟩:=vw hok
   have hzs:z.cells.size=E.size:=by have:=(h5 r).len;simp at this;omega
   obtain⟨b,hb',hq⟩:=aj hq
   cases ho:b.own<;>rw[ho]at hq<;>simp only[aeW,aeS]at hq
   ·cases hq
   obtain⟨cs',hl',hq⟩:=aj hq
   cases hq
   have hc0:au (VS r) (rep n E.zero) (Builtin.zeroCells z.cells n).toList:=by
    have:=yG z.cells (by omega) n
    unfold Builtin.zeroCells
    simp only[ahs,aho,this]
    exact Cb (h5 r) n
   obtain⟨r1,r2,r3⟩:=UG (P:=P) (fl:=fl) hi hb' ho (aff hfl) hc0 hl'
   have hn0:n≠0:=by simpa using h0
   refine⟨_,?_,r,r2,VS.undef,r3⟩
   obtain⟨m,rfl⟩:=Nat.exists_eq_succ_of_ne_zero hn0
   simp[Builtin.clear_,ahG hd,zeroValue,typeInfo,hi',hz,r1,Go.undef]
  ·cases hq
   have hn0:n=0:=by simpa using h0
   subst hn0
   exact⟨w,by simp[Builtin.clear_,ahG hd,Go.undef],Post.same hi VS.undef⟩
 ·cases hq
theorem Heap.fE (h:Heap)(l:Nat)(cs:List S)(k:Nat):Heap.get ⟨(h.next,⟨cs,true⟩)::Hp.del h.m l,h.next+1⟩ k=if k=h.next then some ⟨cs,true⟩else if k=l then none else h.get k:=by
 show Hp.get ((h.next,_)::Hp.del h.m l) k=_
 rw[Hp.gQ,Hp.Gg]
 by_cases e:k=h.next
 ·subst e;simp
 ·rw[afc e]
  have:(h.next==k)=false:=by simpa using λe'=>e e'.symm
  simp only[this,aeS]
  rfl
theorem a6s (hty:eY P ty)(hi:Inv h r B w){t t2:TypeId}{E:Ty}(hE:elemOf ty t=some E)(hs2:EL ty t2=true){s x:S}{us ux:Value}(hus:VS r s us)(hux:VS r x ux){k:Nat}{cs:List S}(hsrc:vk h x=some (k,cs))
  (hk:EX E k cs=true) (hsz:szS s=E.size) {v:V} {h':Heap} (hq:appW h fl k cs s=some (v,h')) (o:TypeId):∃z w',(Builtin.append_ #[t,t2] o #[us,ux]).run P w=.ok z w'/\Post B fl h r w v h' z w':=by
 obtain⟨e,hd,hE'⟩:=jw hty hE
 obtain⟨d2,hd2,hd2'⟩:=IW hty hs2
 obtain⟨i,d,z,hi',hd',hz,h1,h2,h3,h4,h5⟩:=hty e E hE'
 obtain⟨hok,hk1,hk2⟩:=zV hk
 obtain⟨hb,hs,hzl⟩:=vw hok
 obtain⟨news,g1,g2⟩:=src_ok (P:=P) hi hux hsrc hk2
 unfold appW at hq
 split at hq
 ·rename_i l o' n q c
  have hq':q=E.size:=hsz
  subst hq'
  cases hc:(aib n 65536&&aib (n+k) c&&aib fl l)<;>rw[hc]at hq<;>simp only[aeW,aeS]at hq
  ·cases hq
  simp only[aeI]at hc
  have hnk:=aff hc.1.2
  have hfl:=aff hc.2
  obtain⟨b,hb',hq⟩:=aj hq
  cases ho:b.own<;>rw[ho]at hq<;>simp only[aeW,aeS]at hq
  ·cases hq
  obtain⟨cs',hl',hq⟩:=aj hq
  cases hq
  obtain⟨cc,rfl,hl,hz0,hn',hcc⟩:=zW hus
  have hcc:cc=c:=by rcases hcc with e|⟨e,_⟩<;>cases e;rfl
  subst hcc
  obtain⟨r1,r2,r3⟩:=UG (P:=P) (fl:=fl) hi hb' ho hfl g1 hl'
  have hr:=Vm (P:=P) (w:=w) (o:=o) (a:=r.at l o') (c:=cc) hd hd2 hd2' hi' (h2▸g2) (n:=n) hnk
  rw[Addr.uf,<-h2,r1]at hr
  exact⟨_,_,hr,r,r2,⟨hl,hz0,hnk,rfl⟩,r3⟩
 ·rename_i l o' n q
  have hq':q=E.size:=hsz
  subst hq'
  cases hc:(aib n 65536&&aib fl l&&o'==0)<;>rw[hc]at hq<;>simp only[aeW,aeS]at hq
  ·cases hq
  simp only[aeI,ag4]at hc
  obtain⟨⟨hn,hfl⟩,rfl⟩:=hc
  have hn:=aff hn
  have hfl:=aff hfl
  obtain⟨b,hb',hq⟩:=aj hq
  cases ho:(b.own&&aib (n*E.size) b.cells.length)<;>rw[ho]at hq<;>simp only[aeW,aeS]at hq
  ·cases hq
  simp only[aeI]at ho
  obtain⟨ho,hbl0⟩:=ho
  have hbl0:=aff hbl0
  have hbl:(b.cells.take (n*E.size)).length=n*E.size:=by rw[afu];omega
  cases hq
  have hus0:=hus
  obtain⟨cc,rfl,hl,hz0,hn',hcc⟩:=zW hus
  have hcc:cc=r.cap l/E.size:=by
      rcases hcc with e|⟨_,e⟩;· cases e
      ·simpa using e
  obtain⟨q1,q2,C,T,fz,q3,q4,q5,q6⟩:=hi.hr.own l b hb' ho
  have hread:h.read l 0 (n*E.size)=some (b.cells.take (n*E.size)):=by
   show ob (h.get l) (λb=>ext b.cells 0 (n*E.size))=_
   rw[hb']
   have:∀(l':List S) (m:Nat),m<=l'.length->taken l' m=some (l'.take m):=by
    intro l'
    induction l' with
    |nil=>
        intro m hm;obtain rfl:m=0:=by simpa using hm
        rfl
    |cons a t ih=>
     intro m hm
     cases m with
     |zero=>rfl
     |succ m=>
      show(Option.rec none (λr=>some (a::r)) (taken t m):Option (List S))=_
      rw[ih m (by simpa using hm)]
      rfl
   simp only[lW,ext,ahl]
   exact this _ _ hbl0
  by_cases hroom:n+k<=cc
  · -- there is room: the block goes on under a new name
   have hmul:(n+k)*E.size<=C.size:=by
    rw[q4]
    refine afv (Nat.mul_le_mul_right _ hroom) ?_
    rw[hcc]
    exact Nat.div_mul_le_self _ _
   have hnl:=g1.len
   have hfit:n*E.size+news.length<=C.size:=by
    rw[<-hnl,hk2,<-ahD];exact hmul
   obtain⟨D,d1,d2,d3,d4,d5,d6,d7⟩:=setCells_at news (n*E.size) C w q3 hfit
   have hone:=Nw g1
   have hst:=ai1 (P:=P) (r.blk l) (n*E.size) news 0 w (λj hj=>by
     have:n*E.size+j<C.size:=by omega
     simp[World.cell?,q3,this]) (λj hj=>by
     have:=q5 (n*E.size+0+j) (by omega)
     simp only[World.frozen?,q3]
     exact this) hone
   have hat:r.at l (n*E.size)=⟨r.blk l,n*E.size,none⟩:=by simp[Ren.at,q2]
   have hr:=Vm (P:=P) (w:=w) (o:=o) (a:=r.at l 0) (c:=cc) hd hd2 hd2' hi' (h2▸g2) (n:=n) hroom
   rw[Addr.uf,<-h2,afK,hat]at hr
   simp only[afS]at hst
   rw[hst]at hr
   have hDs:D.size=C.size:=by
    have:=congrArg ain d2
    simp at this
    omega
   have hle:=r.SY h.next (r.blk l) C.size (Inv.not h hi)
   have hdl:=hi.n l (hi.hr.dom l b hb')
   have hnb:(r.new h.next (r.blk l) C.size).blk h.next=r.blk l:=by simp[Ren.new]
   have hDC:∀j,j<n*E.size->D[j]? =C[j]? :=λj hj=>by
    have e1:D[j]? =D.toList[j]? :=by rw[afx]
    rw[e1,d2,af5 (by simp;omega),ag5 hj,afx]
   refine⟨_,_,hr,r.new h.next (r.blk l) C.size,⟨λl hl=>by
     show l<h.next+1
     rcases hl with hl|hl
     ·have:=hi.n l hl;omega
     ·omega,by rw[d7];exact hi.b,?_⟩,?_,?_⟩
   ·refine⟨λm c hm=>?_,λm c hm hc=>?_,λm c hm hc=>?_,λm c m' c' e1 o1 e2 o2 e=>?_,hi.hr.nb,λk hk=>(d3 k (by have:=hi.hr.nb;omega)).trans (hi.hr.z k hk)⟩
    ·rw[Heap.fE]at hm
     split at hm
     ·rename_i e;exact .inr e
     ·split at hm
      ·cases hm
      ·exact .inl (hi.hr.dom m c hm)
    ·rw[Heap.fE]at hm
     split at hm
     ·rename_i e;subst e;cases hm
      rw[hnb]
      refine⟨q1,by simp[Ren.new],D,T,fz,d1,by simp[Ren.new,hDs],by rw[hDs];exact q5,λi x hx=>?_⟩
      rw[aI]at hx
      by_cases c1:i<(b.cells.take (n*E.size)).length
      ·rw[af5 c1]at hx
       obtain⟨u,hu1,hu2⟩:=q6 i x (by rw[aI];rw[afQ]at hx;split at hx<;>first |exact hx|cases hx)
       exact⟨u,by rw[hDC i (by omega)];exact hu1,VS.mono hle hu2⟩
      ·rw[af7 (by omega)]at hx
       obtain⟨u,hu1,hu2⟩:=au.nth g1 (by rw[aI];exact hx)
       refine⟨u,?_,VS.mono hle hu2⟩
       have e1:D[i]? =D.toList[i]? :=by rw[afx]
       have e2:(C.toList.take (n*E.size)).length=n*E.size:=by simp;omega
       rw[e1,d2,af7 (by omega),e2,<-hbl]
       rw[af5 (aeU.1 hu1).1]
       exact hu1
     ·rename_i e
      split at hm
      ·cases hm
      ·rename_i e'
       obtain⟨p1,p2,C',T',fz',p3,p4,p5,p6⟩:=hi.hr.own m c hm hc
       have hml:=hi.hr.dom m c hm
       rw[hle.blk m hml,hle.off m hml,hle.cap m hml]
       exact⟨p1,p2,C',T',fz',by rw[d3 _ (λe''=>e' (hi.hr.inj m c l b hm hc hb' ho e''))];exact p3,p4,p5,λi x hx=>by obtain⟨u,hu1,hu2⟩:=p6 i x hx;exact⟨u,hu1,VS.mono hle hu2⟩⟩
    ·rw[Heap.fE]at hm
     split at hm
     ·cases hm;cases hc
     ·split at hm
      ·cases hm
      ·obtain⟨p1,p2⟩:=hi.hr.ro m c hm hc
       have hml:=hi.hr.dom m c hm
       rw[hle.blk m hml]
       refine⟨p1,λi x hx=>?_⟩
       obtain⟨u,hu,hv⟩:=p2 i x hx
       rw[hle.at hml]
       have e:(w.setCells (r.blk l) (n*E.size) news).cell? (r.at m i)=w.cell? (r.at m i):=ahI (d3 _ (by show r.blk m≠_;omega))
       exact⟨u,by rw[e];exact hu,VS.mono hle hv⟩
    ·have key:∀m c,Heap.get ⟨(h.next,⟨b.cells.take (n*E.size)++cs,true⟩)::Hp.del h.m l,h.next+1⟩ m=some c->c.own=true->(m=h.next/\(r.new h.next (r.blk l) C.size).blk m=r.blk l)\/(m≠h.next/\m≠l/\h.get m=some c/\(r.new h.next (r.blk l) C.size).blk m=r.blk m):=λm c hm hc=>by
      rw[Heap.fE]at hm
      split at hm
      ·rename_i e;exact .inl ⟨e,by rw[e,hnb]⟩
      ·rename_i e
       split at hm
       ·cases hm
       ·rename_i e'
        exact .inr ⟨e,e',hm,hle.blk m (hi.hr.dom m c hm)⟩
     rcases key m c e1 o1 with⟨a1,a2⟩|⟨a1,a2,a3,a4⟩<;>rcases key m' c' e2 o2 with⟨b1,b2⟩|⟨b1,b2,b3,b4⟩
     ·omega
     ·rw[a2,b4]at e
      exact absurd (hi.hr.inj m' c' l b b3 o2 hb' ho e.symm) b2
     ·rw[a4,b2]at e
      exact absurd (hi.hr.inj m c l b a3 o1 hb' ho e) a2
     ·rw[a4,b4]at e
      exact hi.hr.inj m c m' c' a3 o1 b3 o2 e
   ·have hcapn:(r.new h.next (r.blk l) C.size).cap h.next=r.cap l:=by simp[Ren.new,q4]
    have hatn:(r.new h.next (r.blk l) C.size).at h.next 0=r.at l 0:=by simp[Ren.at,Ren.new,q2]
    refine⟨.inr rfl,⟨hs,by rw[hcapn];exact hus0.2.1.2⟩,?_,?_⟩
    ·rw[hcapn,Nat.sub_zero,<-hcc];exact hroom
    ·rw[hcapn,hatn,Nat.sub_zero,<-hcc]
   ·refine⟨hle,ahC _,λl hl=>by
      rcases hl with hl|hl
      ·exact .inl hl
      ·exact .inr (Nat.le_of_eq hl.symm),d4,d5,d6,by omega,λm _ hno=>d3 m (λe=>hno l b hb' ho hfl e.symm),λm hm hmf=>?_,λm c hm hc=>?_,λm c hm hc=>?_⟩
    ·rw[Heap.fE,afc (by omega),afc (by omega)]
    ·rw[Heap.fE,afc (by omega)]at hc
     split at hc
     ·cases hc
     ·exact⟨c,hc,rfl⟩
    ·rw[Heap.fE]at hc
     split at hc
     ·rename_i e;subst e;cases hc
      exact⟨rfl,.inr ⟨l,b,hb',ho,hfl,hnb⟩⟩
     ·split at hc
      ·cases hc
      ·have:=hi.n m (hi.hr.dom m c hc);omega
  · -- no room: a new row
   obtain⟨olds,o1,o2,o3⟩:=qX (P:=P) hi hread
   obtain⟨zz,w',hrun,r',p1,p2,p3⟩:=NH hty hi hE hs2 (a:=some (r.at l 0)) (c:=cc) hk g2 g1 o1 hbl (Nat.lt_of_not_le hroom) hn (o3 w.drew (λ_=>rfl)) o fl
   refine⟨zz,w',hrun,r',?_,p2,?_⟩
   ·refine⟨p1.n,p1.b,p1.hr.sub λm c hm=>?_⟩
    rw[Heap.fE]at hm
    rw[Heap.gI]
    split at hm
    ·rename_i e;rw[afm e];exact hm
    ·rename_i e
     split at hm
     ·cases hm
     ·rw[afc e];exact hm
   ·have hdl:=hi.n l (hi.hr.dom l b hb')
    refine⟨p3.le,p3.nn,p3.okn,p3.os,p3.tape,p3.output,p3.size,p3.frame,λm hm hmf=>?_,λm c hm hc=>?_,λm c hm hc=>?_⟩
    ·rw[Heap.fE,afc (by omega),afc (by omega)]
    ·rw[Heap.fE,afc (by omega)]at hc
     split at hc
     ·cases hc
     ·exact⟨c,hc,rfl⟩
    ·rw[Heap.fE]at hc
     split at hc
     ·rename_i e
      exact p3.fresh m c hm (by rw[Heap.gI,afm e];exact hc)
     ·split at hc
      ·cases hc
      ·have:=hi.n m (hi.hr.dom m c hc);omega
 ·cases hq
end
end Am
namespace Am
variable [Base]
def dJ (P:Program)(f:FuncId):Prop:=∃fn,P.funcs[f]? =some fn/\(fn.name== "runtime.NumGoroutine")=false/\fn.body.isNone=false
def Sound (P:Program)(O:aU):Prop:=
 ∀f args h fl v h',O f args h fl=some (v,h')->dJ P f/\∀r B w vs,Inv h r B w->au (VA r) args vs->
  Calls P f vs.toArray w λe w'=>∃u,e=.returned u/\Post B fl h r w v h' u w'
section
structure tu (P:Program)(C:Ctx):Prop where
 call:Sound P C.call
 tb:bQ C.tb
variable {P:Program} {C:Ctx} {h hw:Heap} {r:Ren} {B fl:Nat} {w:World} {fr:Fr} {a:Act} {o:Oper}
theorem Ve {c:Call}{x y:TypeId}{s t:Operand}(h1:c.argTypes.toList=[x,y])(h2:c.args.toList=[s,t]):c.argTypes=#[x,y]/\c.args=#[s,t]:=by
 constructor
 ·cases hc:c.argTypes;rw[hc]at h1;simp at h1;rw[h1]
 ·cases hc:c.args;rw[hc]at h2;simp at h2;rw[h2]
theorem Aj {ty:Tys}{ts:List TypeId}{xs:List Operand}{k:Ty->Nat->List S->S->R}{v:V×Heap}(hh:GL ty fr h ts xs k=some v):
  ∃t u s x E sv xv p,ts=[t,u]/\xs=[s,x]/\EL ty u=true/\elemOf ty t=some E/\evS fr s=some sv/\evS fr x=some xv/\vk h xv=some p/\EX E p.1 p.2=true/\k E p.1 p.2 sv=some v:=by
 unfold GL at hh
 split at hh
 ·rename_i t u s x
  cases hq:EL ty u<;>rw[hq]at hh<;>simp only[aeW,aeS]at hh
  ·cases hh
  obtain⟨E,hE,hh⟩:=aj hh
  obtain⟨sv,hsv,hh⟩:=aj hh
  obtain⟨xv,hxv,hh⟩:=aj hh
  obtain⟨p,hp,hh⟩:=aj hh
  cases hk:EX E p.1 p.2<;>rw[hk]at hh<;>simp only[aeW,aeS]at hh
  ·cases hh
  exact⟨t,u,s,x,E,sv,xv,p,rfl,rfl,hq,hE,hsv,hxv,hp,hk,hh⟩
 ·cases hh
theorem Ih {c:Call}(ho:o.op=.call c)(hc:c.callee=.builtin .append){t u:TypeId}{s x:Operand}(h1:c.argTypes.toList=[t,u])(h2:c.args.toList=[s,x]){z:Value}{w':World}
  (hr:(Builtin.append_ #[t,u] o.type #[a.eval s,a.eval x]).run P w=.ok z w'):(execOp a.eval o).run P w=.ok (.value z) w':=by
 obtain⟨e1,e2⟩:=Ve h1 h2
 simp[execOp,ho,resolve,hc,invoke,builtin,e1,e2,hr]
theorem QW {n:Int}{k:Nat}(h:a3y n=some k):n=k:=by
 cases n with
 |ofNat i=>cases h;rfl
 |negSucc i=>cases h
theorem Dh {x y:R}{z:V×Heap}(h:orR x y=some z):x=some z\/y=some z:=by
 cases x with
 |none=>exact .inr h
 |some q=>cases h;exact .inl rfl
theorem Pz (hty:eY P C.ty)(hi:Inv h r B w)(hf:FR r fr a){v:V}{h':Heap}(hh:how C fr h hw fl o.op=.q (some (v,h')))(fl':Nat):OpR P o a w (Post B fl' h r w v h'):=by
 cases ho:o.op<;>simp only[ho,how]at hh<;>(try(cases hh;done))<;>(try(simp only[How.q.injEq]at hh))
 case alloc t=>
  obtain⟨T,hT,hh⟩:=aj hh
  cases hh
  obtain⟨z,hz,hr⟩:=Zw (P:=P) (w:=w) hty hT
  obtain⟨g1,g2⟩:=Gs hi (D5 (hz r)) t fl'
  exact OpR.val (v:=.pointer (some ⟨w.heap.size,0,none⟩)) (by simp[execOp,ho,hr]) ⟨_,g1,WT _ _ _ _,g2⟩
 case box t x=>
  obtain⟨y,hy,hh⟩:=aj hh
  cases hh
  have hv:=VA.cells (qW hf hy)
  obtain⟨g1,g2⟩:=Gs hi (D5 hv) t fl'
  exact OpR.val (v:=.pointer (some ⟨w.heap.size,0,none⟩)) (by simp[execOp,ho,Instr.box,newVar,newRow]) ⟨_,g1,WT _ _ _ _,g2⟩
 case buildSlice t len ps=>
  obtain⟨E,hE,hh⟩:=aj hh
  obtain⟨qs,hqs,hh⟩:=aj hh
  cases hc:(okE E&&aib (len*E.size) 65536)<;>rw[hc]at hh<;>simp only[aeW,aeS]at hh
  ·cases hh
  simp only[aeI]at hc
  obtain⟨cs,hcs,hh⟩:=aj hh
  cases hh
  obtain⟨u,w',hr,hp⟩:=JM (P:=P) hty hi hE (zZ hf hqs) hc.1 (aff hc.2) hcs fl'
  refine OpR.val ?_ hp
  simp only[execOp,ho]
  rw[show(ps.map λ(x:Nat×Operand)=>match x with |(i,x)=>(i,a.eval x))=(ps.toList.map λp=>(p.1,a.eval p.2)).toArray from by cases ps;simp]
  simp[hr]
 case load t x=>
  unfold qL at hh
  split at hh
  ·cases hh
  simp only[How.q.injEq]at hh
  have hh:orR (a4a C.ty fr h t x) (a3d C.ty fr h t x)=some (v,h'):=hh
  rcases Dh hh with hh|hh
  case inr=>
   obtain⟨T,hT,hh⟩:=aj hh
   obtain⟨p,hp,hh⟩:=aj hh
   split at hh
   ·rename_i l o n i
    cases hc:(T.size==1&&!T.d.agg)<;>rw[hc]at hh<;>simp only[aeW,aeS]at hh
    ·cases hh
    simp only[aeI,ag4,ag3]at hc
    obtain⟨cs,hcs,hh⟩:=aj hh
    obtain⟨m,hm,hh⟩:=aj hh
    cases hh
    have hsz:=hc.1
    obtain⟨hl,k1,k2,hv⟩:=fQ hf hp
    obtain⟨j,hj⟩:∃j:Nat,Base.rho i=j:=⟨_,(ah0 k1).symm⟩
    obtain⟨b,hb,hcs⟩:=aj hcs
    obtain⟨e1,hcs'⟩:=ext_eq hcs
    have hjn:j<n:=by omega
    have hcj:∃c,cs[j]? =some c/\b.cells[o+j]? =some c:=by
     have h2:cs[j]? =b.cells[o+j]? :=by
      rw[hcs',ag5 hjn,afR]
     refine⟨b.cells[o+j]'(by omega),?_,aeK _⟩
     rw[h2]
     exact aeK _
    obtain⟨c,hc1,hc2⟩:=hcj
    have hci:=Base.ok.xt.ld _ _ _ (Gu hm) j c hc1 hj
    have hread:h.read l (o+j) T.size=some [c]:=by
     rw[hsz]
     show ob (h.get l) (λb=>ext b.cells (o+j) 1)=_
     rw[hb]
     show taken (b.cells.drop (o+j)) 1=some [c]
     have:(b.cells.drop (o+j))[0]? =some c:=by rw[afR,afS];exact hc2
     cases hd:b.cells.drop (o+j)with
     |nil=>rw[hd]at this;cases this
     |cons z zs=>
      rw[hd]at this
      cases this
      cases zs<;>rfl
    have hmk:T.mk' [c]=some (.s c):=by unfold Ty.mk';rw[hc.2];rfl
    obtain⟨z,hz,hz'⟩:=Gh (P:=P) hty hi hT hread hmk
    have h2:a.eval x=.pointer (some (r.at l (o+j))):=by rw[hv,hj,afO]
    exact OpR.val (v:=z) (by simp[execOp,ho,h2,hz]) (Post.same hi (show VV r (V.s (.xi .i64 m)) z from(i64_is hci).1 hz'))
   ·cases hh
  obtain⟨T,hT,hh⟩:=aj hh
  obtain⟨p,hp,hh⟩:=aj hh
  obtain⟨cs,hcs,hh⟩:=aj hh
  obtain⟨y,hy,hh⟩:=aj hh
  cases hh
  obtain⟨h1,h2⟩:=rG hf hp
  obtain⟨z,hz,hz'⟩:=Gh (P:=P) hty hi hT hcs hy
  exact OpR.val (by simp[execOp,ho,h2,hz]) (Post.same hi hz')
 case convert src dst x=>
  unfold qI at hh
  split at hh
  ·cases hh
  ·simp only[How.q.injEq]at hh
   obtain⟨y,hy,hh⟩:=aj hh
   have hv:=fQ hf hy
   cases hc:(nV C.ty dst&&u8T C.ty src)<;>rw[hc]at hh<;>simp only[aeW,aeS]at hh
   ·cases hc':(nV C.ty src&&u8T C.ty dst)<;>rw[hc']at hh<;>simp only[aeW,aeS]at hh
    ·cases hh
    simp only[aeI]at hc'
    obtain⟨z,w',hr,hp⟩:=U8 (P:=P) hty hi hc'.1 hc'.2 hv hh fl'
    exact OpR.val (by simp[execOp,ho,hr]) hp
   ·simp only[aeI]at hc
    obtain⟨rfl,z,hr,hp⟩:=a3r (P:=P) hty hi hc.2 hc.1 hv hh
    exact OpR.val (by simp[execOp,ho,hr]) (Post.same hi hp)
 case makeSlice t l c=>
  obtain⟨E,hE,hh⟩:=aj hh
  obtain⟨n,hn,hh⟩:=aj hh
  obtain⟨n',hn',hh⟩:=aj hh
  obtain⟨m,hm,hh⟩:=aj hh
  obtain⟨m',hm',hh⟩:=aj hh
  cases hc:(okE E&&aib n' m'&&aib m' 65536)<;>rw[hc]at hh<;>simp only[aeW,aeS]at hh
  ·cases hh
  simp only[aeI]at hc
  cases hh
  obtain rfl:=QW hn'
  obtain rfl:=QW hm'
  obtain⟨kl,hkl⟩:=BJ hf hn
  obtain⟨kc,hkc⟩:=BJ hf hm
  obtain⟨u,w',hr,hp⟩:=OW (P:=P) hty hi hE hc.1.1 (aff hc.1.2) (aff hc.2) kl kc fl'
  exact OpR.val (by simp[execOp,ho,hkl,hkc,hr]) hp
 case call c=>
  cases hcal:c.callee<;>simp only[hcal,lZ]at hh<;>(try(cases hh;done))
  unfold iG at hh
  split at hh<;>cases hh
theorem Ja (hty:eY P C.ty)(hi:Inv h r B w)(hf:FR r fr a){v:V}{h':Heap}{r':R}(hh:how C fr h hw fl o.op=.qw (some (v,h')) r')(fl':Nat):OpR P o a w (Post B fl' h r w v h'):=by
 cases ho:o.op<;>simp only[ho,how]at hh<;>(try(cases hh;done))
 case load t x=>unfold qL at hh;split at hh<;>cases hh
 case convert src dst x=>unfold qI at hh;split at hh<;>cases hh
 case call c=>
  cases hcal:c.callee<;>simp only[hcal,lZ]at hh<;>(try(cases hh;done))
  unfold iG at hh
  split at hh
  ·simp only[How.qw.injEq]at hh
   obtain⟨t,u,s,x,E,sv,xv,p,e1,e2,e3,e4,e5,e6,e7,e8,e9⟩:=Aj hh.1
   obtain⟨z,w',hr,hp⟩:=a5Y (P:=P) hty hi e4 e3 (fQ hf e5) (fQ hf e6) e7 e8 e9 o.type fl'
   exact OpR.val (Ih ho hcal e1 e2 hr) hp
  ·cases hh
  ·cases hh
  ·cases hh
theorem IQ (hty:eY P C.ty)(hi:Inv hw r B w)(hf:FR r fr a){v:V}{h':Heap}{r':R}(hh:how C fr h hw fl o.op=.qw r' (some (v,h'))):OpR P o a w (Post B fl hw r w v h'):=by
 cases ho:o.op<;>simp only[ho,how]at hh<;>(try(cases hh;done))
 case load t x=>unfold qL at hh;split at hh<;>cases hh
 case convert src dst x=>unfold qI at hh;split at hh<;>cases hh
 case call c=>
  cases hcal:c.callee<;>simp only[hcal,lZ]at hh<;>(try(cases hh;done))
  unfold iG at hh
  split at hh
  ·simp only[How.qw.injEq]at hh
   obtain⟨t,u,s,x,E,sv,xv,p,e1,e2,e3,e4,e5,e6,e7,e8,e9⟩:=Aj hh.2
   cases hz:(szS sv==E.size)<;>rw[hz]at e9<;>simp only[aeW,aeS]at e9
   ·cases e9
   obtain⟨z,w',hr,hp⟩:=a6s (P:=P) hty hi e4 e3 (fQ hf e5) (fQ hf e6) e7 e8 (by simpa using hz) e9 o.type
   exact OpR.val (Ih ho hcal e1 e2 hr) hp
  ·cases hh
  ·cases hh
  ·cases hh
theorem QO (hty:eY P C.ty)(hi:Inv hw r B w)(hf:FR r fr a){v:V}{h':Heap}(hh:how C fr h hw fl o.op=.w (some (v,h'))):OpR P o a w (Post B fl hw r w v h'):=by
 cases ho:o.op<;>simp only[ho,how]at hh<;>(try(cases hh;done))<;>(try(simp only[How.w.injEq]at hh))
 case load t x=>unfold qL at hh;split at hh<;>cases hh
 case convert src dst x=>unfold qI at hh;split at hh<;>cases hh
 case store t x y=>
  rcases Dh hh with hh|hh
  case inr=>
   obtain⟨p,hp,hh⟩:=aj hh
   obtain⟨q,hq,hh⟩:=aj hh
   obtain⟨T,l,k,w',hT,h1,h2,h3,h4,h5,h6,h7⟩:=a0b (P:=P) hi (fQ hf hp) (fQ hf hq) hh
   subst h5
   have hsz:=iC (w:=w) hty hT
   refine OpR.skip ?_ ⟨r,h6,VS.undef,h7⟩
   simp[execOp,ho,h2,h3,Instr.storeAt,Instr.sureAddr,storeVar,hsz,h1,h4]
  obtain⟨T,hT,hh⟩:=aj hh
  obtain⟨p,hp,hh⟩:=aj hh
  obtain⟨v',hv',hh⟩:=aj hh
  cases hc:(v'.cells.length==T.size&&aib fl p.1)<;>rw[hc]at hh<;>simp only[aeW,aeS]at hh
  ·cases hh
  simp only[aeI,ag4]at hc
  obtain⟨b,hb,hh⟩:=aj hh
  cases hbo:b.own<;>rw[hbo]at hh<;>simp only[aeW,aeS]at hh
  ·cases hh
  obtain⟨cs,hcs,hh⟩:=aj hh
  cases hh
  obtain⟨h1,h2⟩:=rG hf hp
  have hvc:=VA.cells (qW hf hv')
  obtain⟨g1,g2,g3⟩:=UG (P:=P) (fl:=fl) hi hb hbo (aff hc.2) hvc hcs
  have hsz:=iC (w:=w) hty hT
  have hlen:(a.eval y).cells.size=T.size:=by have:=hvc.len;simp at this;omega
  refine OpR.skip ?_ ⟨r,g2,VS.undef,g3⟩
  simp[execOp,ho,h2,Instr.storeAt,Instr.sureAddr,storeVar,hsz,hlen,g1]
 case call c=>
  cases hcal:c.callee<;>simp only[hcal,lZ]at hh<;>(try(cases hh;done))
  unfold iG at hh
  split at hh
  ·cases hh
  ·simp only[How.w.injEq]at hh
   unfold OJ at hh
   split at hh
   ·rename_i t x ht hx
    obtain⟨E,hE,hh⟩:=aj hh
    obtain⟨s,hs,hh⟩:=aj hh
    obtain⟨w',hr,hp⟩:=a3x (P:=P) hty hi hE (fQ hf hs) hh o.type
    have e1:=AP ht
    have e2:=AP hx
    refine OpR.val (v:=Go.undef) ?_ hp
    simp[execOp,ho,resolve,hcal,invoke,builtin,e1,e2,hr]
   ·cases hh
  ·cases hh
  ·cases hh
theorem X9:∀(cs:List (Nat×Nat)),(∀p∈cs,r.ok p.1)->au (VA r) (cs.map λp=>A.s (S.ptr p.1 p.2)) (cs.map λp=>Value.pointer (some (r.at p.1 p.2)))
 |[],_=>trivial
 |p::cs,h=>⟨⟨h p (by simp),rfl⟩,X9 cs λq hq=>h q (by simp[hq])⟩
theorem Bq (hC:tu P C)(hi:Inv h r B w)(hf:FR r fr a){v:V}{h' h1 h2:Heap}{fl':Nat}{f:Operand}{as:List Operand}(hh:how C fr h1 h2 fl' o.op=.c f as)(hc:mM C fr h fl f as=some (v,h')):OpR P o a w (Post B fl h r w v h'):=by
 cases ho:o.op<;>simp only[ho,how]at hh<;>(try(cases hh;done))
 case load t x=>unfold qL at hh;split at hh<;>cases hh
 case convert src dst x=>unfold qI at hh;split at hh<;>cases hh
 case call c=>
  cases hcal:c.callee<;>simp only[hcal,lZ]at hh<;>(try(cases hh;done))
  ·rename_i g
   simp only[How.c.injEq]at hh
   obtain⟨rfl,rfl⟩:=hh
   obtain⟨s,hs,hc⟩:=aj hc
   obtain⟨xs,hxs,hc⟩:=aj hc
   cases s with
   |fn fid cs=>
    obtain⟨⟨fn,k1,k2,k3⟩,hcalls⟩:=hC.call _ _ _ _ _ _ hc
    obtain⟨hcs,hv⟩:=fQ hf hs
    have hargs:au (VA r) (xs++cs.map λp=>.s (.ptr p.1 p.2)) (c.args.toList.map a.eval++cs.map λp=>Value.pointer (some (r.at p.1 p.2))):=by
     refine(X0 hf hxs).app ?_
     exact X9 cs hcs
    have:=hcalls r B w _ hi hargs
    unfold OpR
    have hrun:(execOp a.eval o).run P w=.ok (.enter fid (c.args.toList.map a.eval++cs.map λp=>Value.pointer (some (r.at p.1 p.2))).toArray) w:=by
     have e1:c.args.map a.eval=(c.args.toList.map a.eval).toArray:=by cases c.args;simp
     have k2':¬fn.name= "runtime.NumGoroutine" :=by simpa using k2
     have k3':fn.body≠none:=by intro e;rw[e]at k3;cases k3
     simp[execOp,ho,resolve,hcal,hv,Deferred.ofValue,invoke,callFunc,k1,k2',k3',e1]
    rw[hrun]
    exact this
   |_=>cases hc
  ·unfold iG at hh
   split at hh<;>cases hh
theorem aaN (hty:eY P C.ty)(hC:tu P C)(hi:Inv h r B w)(hf:FR r fr a){v:V}{h':Heap}(hh:opr C fr h fl o.op=some (v,h')):OpR P o a w (Post B fl h r w v h'):=by
 unfold opr a4c at hh
 cases hw:how C fr h h fl o.op with
 |p x=>
  rw[hw]at hh
  obtain⟨y,rfl,hh⟩:=aj hh
  cases hh
  obtain⟨u,hu,hv⟩:=Rl (w:=w) hty hC.tb hi.hr.z hf hw
  exact OpR.val hu (Post.same hi hv)
 |q x=>rw[hw]at hh;subst hh;exact Pz hty hi hf hw fl
 |w x=>rw[hw]at hh;subst hh;exact QO hty hi hf hw
 |qw x y=>
  rw[hw]at hh
  cases x with
  |some x=>cases hh;exact Ja hty hi hf hw fl
  |none=>
   have hh:y=some (v,h'):=hh
   subst hh
   exact IQ hty hi hf hw
 |c f as=>
  rw[hw]at hh
  obtain⟨vs,_,hh⟩:=aj (show a9d C fr h fl f as=some (v,h')from hh)
  cases hc:(vs.all a9t&&aib fl h.next)<;>rw[hc]at hh<;>simp only[aeW,aeS]at hh
  ·exact Bq hC hi hf hw hh
  ·simp only[aeI]at hc
   rcases Dh hh with hh|hh
   ·refine(Bq hC hi hf hw hh).mono λu w' ⟨r',g1,g2,g3⟩=>⟨r',g1,g2,g3.low (aff hc.2)⟩
   ·exact Bq hC hi hf hw hh
def a6M (u:Value):Option Bool:=match u with | .bool b=>some b|_=>none
theorem a1c {v:V}{u:Value}(hd:Xw v=false)(hv:VV r v u):a9b v=a6M u:=by
 cases v with
 |a x=>cases x with
  |s x=>cases x with
   |xe l=>
    have hd:Option.rec true (λ_=>false) (zX l)=false:=hd
    cases hl:zX l with
    |none=>rw[hl]at hd;cases hd
    |some b=>
     have e:u=.bool b:=o8 (r:=r) (x:=.xe l) hl hv
     rw[e]
     exact hl
   |xa l c=>
    have hd:Option.rec true (λ_=>false) (OX l)=false:=hd
    cases hl:OX l with
    |none=>rw[hl]at hd;cases hd
    |some b=>
     have e:u=.bool (b==c):=o8 (r:=r) (x:=.xa l c) (show ob (OX l) _=_ by rw[hl];rfl) hv
     rw[e]
     show ob (OX l) _=_
     rw[hl]
     rfl
   |px l o n i=>rw[hv.2.2.2];rfl
   |sl l o n z c=>cases c with
    |none=>rw[hv.2.2.2];rfl
    |some c=>rw[hv.2.2.2];rfl
   |ptr l o=>rw[hv.2];rfl
   |fn f cs=>rw[hv.2];rfl
   |sle=>obtain⟨a,c,rfl⟩:=hv;rfl
   |ifc=>obtain⟨a,c,rfl⟩:=hv;rfl
   |rv k=>obtain⟨_,_,_,_,rfl⟩:=hv;rfl
   |pe k i o=>obtain⟨_,_,_,_,rfl⟩:=hv;rfl
   |top=>cases hd
   |_=>cases hv;rfl
  |g l=>obtain⟨vs,rfl,_⟩:=hv;rfl
 |t l=>obtain⟨vs,rfl,_⟩:=hv;rfl
 |any=>cases hd
theorem Rh:∀{α β:Type} {R:α->β->Prop} {xs:List α} {ys:List β},au R xs ys->∀n:Nat,(nth xs n=none/\ys[n]? =none)\/∃x y,nth xs n=some x/\ys[n]? =some y/\R x y
 |_,_,_,[],[],_,n=>.inl ⟨rfl,by simp⟩
 |_,_,_,[],_::_,h,_=>h.elim
 |_,_,_,_::_,[],h,_=>h.elim
 |_,_,_,x::xs,y::ys,h,0=>.inr ⟨x,y,rfl,rfl,h.1⟩
 |_,_,_,x::xs,y::ys,h,n+1=>by rw[oK];simpa using Rh h.2 n
theorem Tq (hf:FR r fr a)(ops:Array Oper)(j:Nat)(hg:Option.rec true (λq=>Option.rec true (λd=>Option.rec true (λv=>!(Xw v)) (nth fr d)) q.dst) (nth ops.toList j)=true):uI ops.toList fr j=yielded ops a.tmps j:=by
 unfold uI yielded
 rw[aI,afx]at hg |-
 cases hj:ops[j]? with
 |none=>rfl
 |some q=>
  rw[hj]at hg
  simp only[lW,agF]at hg |-
  cases hd:q.dst with
  |none=>rfl
  |some d=>
   rw[hd]at hg
   simp only[lW,agF]at hg |-
   rcases Rh hf d with⟨h1,h2⟩|⟨x,y,h1,h2,h3⟩
   ·rw[h1];simp at h2;simp[agR h2]
   ·rw[h1]at hg |-
    rw[afx]at h2
    rw[h2]
    have hx:Xw x=false:=by simpa using hg
    simp only[lW,a1c hx h3]
    cases y<;>rfl
theorem LW (hf:FR r fr a)(ops:Array Oper)(o:Oper)(hgo:jC ops.toList o fr=true):gV ops.toList o fr=Region.wanted o (yielded ops a.tmps):=by
 unfold gV Region.wanted
 cases hg:o.guard with
 |none=>rfl
 |some g=>
  obtain⟨j,want⟩:=g
  unfold jC at hgo
  rw[hg]at hgo
  simp only[Tq hf ops j hgo]
  cases yielded ops a.tmps j<;>rfl
structure Rel (s:St)(r:Ren)(B:Nat)(a:Act)(w:World):Prop where
 f:FR r s.fr a
 i:Inv s.h r B w
theorem Jt (hty:eY P C.ty)(hC:tu P C){ops:Array Oper}{Q:Exit->Act->World->Prop}{B:Nat}:∀(l:List Oper) {s s':St} {r:Ren} {a:Act} {w:World},Rel s r B a w->Xg C fl ops.toList l s=some s'->
  (∀r' a' w',Rel s' r' B a' w'->Adv fl s.h r w s'.h r' w'->a'.defers=a.defers->Q .normal a' w')->wpList P ops Q l a w
 |[],s,s',r,a,w,hr,hs,hq=>by
  cases hs
  exact wpList_nil (hq r a w hr (Adv.refl fl hr.i) rfl)
 |o::l,s,s',r,a,w,hr,hs,hq=>by
  have hs':(bif jC ops.toList o s.fr then bif gV ops.toList o s.fr then ob (opr C s.fr s.h fl o.op) (λx=>Xg C fl ops.toList l ⟨J6 s.fr o.dst x.1,x.2⟩)else Xg C fl ops.toList l ⟨J6 s.fr o.dst undef,s.h⟩else none)=some s':=hs
  clear hs
  cases hgo:jC ops.toList o s.fr<;>rw[hgo]at hs'<;>simp only[aeW,aeS]at hs'
  ·cases hs'
  refine wpList_step λK hK=>?_
  rw[<-LW hr.f ops o hgo]
  cases hw:gV ops.toList o s.fr<;>rw[hw]at hs'<;>simp only[aeW,aeS]at hs'
  ·simp only[ah4,agA]
   refine hK _ _ (Jt hty hC l (s:=⟨J6 s.fr o.dst undef,s.h⟩) (r:=r) ⟨hr.f.put o.dst VS.undef,hr.i⟩ hs' λr' a' w' h1 h2 h3=>hq r' a' w' h1 h2 (h3.trans (by cases o.dst<;>rfl)))
  ·simp only[agL]
   obtain⟨x,hx,hs'⟩:=aj hs'
   obtain⟨v,h'⟩:=x
   refine(aaN hty hC hr.i hr.f hx).wp λu w' ⟨r',g1,g2,g3⟩=>hK _ _ ?_
   refine Jt hty hC l (s:=⟨J6 s.fr o.dst v,h'⟩) (r:=r') ⟨(hr.f.mono g3.le).put o.dst g2,g1⟩ hs' λr'' a' w'' h1 h2 h3=>hq r'' a' w'' h1 (Adv.trans hr.i g1 g3 h2) (h3.trans (by cases o.dst<;>rfl))
end
end Am
namespace Am
variable [Base]
section
variable {C:Ctx} {fr fr':Fr}
theorem kM {x:Operand}(h:ev fr x=ev fr' x):evA fr x=evA fr' x:=by unfold evA;rw[h]
theorem dP {x:Operand}(h:ev fr x=ev fr' x):evS fr x=evS fr' x:=by unfold evS;rw[kM h]
theorem sQ {x:Operand}(h:ev fr x=ev fr' x):yu fr x=yu fr' x:=by unfold yu;rw[dP h]
theorem nC {x:Operand}(h:ev fr x=ev fr' x):vH fr x=vH fr' x:=by unfold vH;rw[dP h]
theorem rC {α β:Type}{f g:α->Option β}:∀{l:List α},(∀x∈l,f x=g x)->rE f l=rE g l
 |[],_=>rfl
 |x::l,h=>by rw[lQ,lQ,h x (by simp),rC λy hy=>h y (by simp[hy])]
theorem wI {x:Option Operand}(h:∀y∈x,ev fr y=ev fr' y):Ej fr x=Ej fr' x:=by
 cases x with
 |none=>rfl
 |some y=>show ob (yu fr y) _=ob (yu fr' y) _;rw[sQ (h y rfl)]
theorem zC {ps:List (Nat×Operand)}(h:∀p∈ps,ev fr p.2=ev fr' p.2):yS fr ps=yS fr' ps:=
 rC λp hp=>by rw[kM (h p hp)]
theorem EU {ty:Tys}{h:Heap}{ts:List TypeId}{xs:List Operand}{k:Ty->Nat->List S->S->R}(hx:∀x∈xs,ev fr x=ev fr' x):GL ty fr h ts xs k=GL ty fr' h ts xs k:=by
 unfold GL
 split
 ·rename_i t u s x
  rw[dP (hx s (by simp)),dP (hx x (by simp))]
 ·rfl
theorem EN {x:Option Operand}(hx:∀y∈x,ev fr y=ev fr' y):Qz fr x=Qz fr' x:=by
 cases x with
 |none=>rfl
 |some y=>
  show ob (evS fr y) (λx=>ob x.num λp=>some (some p.2))=ob (evS fr' y) (λx=>ob x.num λp=>some (some p.2))
  rw[dP (hx y rfl)]
theorem Tf {T:Tabs}{ty:Tys}{ts:List TypeId}{xs:List Operand}(hx:∀x∈xs,ev fr x=ev fr' x):Yy T ty fr ts xs=Yy T ty fr' ts xs:=by
 unfold Yy
 split
 ·rw[dP (hx _ (by simp))]
 ·rfl
theorem sJ {ty:Tys}{c:Call}{b:Builtin}(hargs:∀x∈c.args.toList,ev fr x=ev fr' x):l9 ty fr c b=l9 ty fr' c b:=by
 unfold l9 a4R SS
 rw[rC λx hxa=>dP (hargs x hxa)]
 split
 ·split
  ·rename_i x _ hl
   rw[kM (hargs x (by simp[hl]))]
  ·rfl
 ·rfl
 ·rfl
 ·rfl
theorem Eh {h hw:Heap}{fl:Nat}{o:Op}(hx:∀x∈o.operands,ev fr x=ev fr' x):how C fr h hw fl o=how C fr' h hw fl o:=by
 cases o<;>simp only[how,Op.operands]at hx |-
 case move x=>rw[hx x (by simp)]
 case assign x=>rw[hx x (by simp)]
 case pick c a b=>unfold a3Q;rw[dP (hx c (by simp)),hx a (by simp),hx b (by simp)]
 case box t x=>unfold a8z;rw[kM (hx x (by simp))]
 case build t ps=>unfold Xv;rw[zC λp hp=>hx p.2 (by simp;exact⟨p.1,by simpa using hp⟩)]
 case buildSlice t l ps=>unfold Dt;rw[zC λp hp=>hx p.2 (by simp;exact⟨p.1,by simpa using hp⟩)]
 case load t x=>unfold qL a4M a2v a4a a3d;rw[nC (hx x (by simp)),dP (hx x (by simp))]
 case store t x v=>unfold Wv Ry;rw[nC (hx x (by simp)),kM (hx v (by simp)),dP (hx x (by simp)),dP (hx v (by simp))]
 case nilCheck x=>unfold Jm;rw[nC (hx x (by simp))]
 case binOp op t x y t'=>unfold binOp' a6v a9G;rw[kM (hx x (by simp)),kM (hx y (by simp)),dP (hx x (by simp)),dP (hx y (by simp))]
 case unOp op t x=>unfold a8K;rw[dP (hx x (by simp))]
 case convert s d x=>unfold qI a3v a9i;rw[dP (hx x (by simp))]
 case makeFunc fn f c=>
  unfold zU
  split
  ·rw[rC λx hxc=>nC (hx x (by simp at hxc |-;exact .inr hxc))]
  ·rfl
 case makeSlice t l c=>unfold ES;rw[sQ (hx l (by simp)),sQ (hx c (by simp))]
 case slice t x l h m=>
  unfold Wj a7I
  rw[dP (hx x (by simp)),wI (x:=l) (λy hy=>hx y (by simp[ah7.1 hy])),wI (x:=h) (λy hy=>hx y (by simp[ah7.1 hy])),wI (x:=m) (λy hy=>hx y (by simp[ah7.1 hy])),
   EN (x:=l) (λy hy=>hx y (by simp[ah7.1 hy])),EN (x:=h) (λy hy=>hx y (by simp[ah7.1 hy]))]
 case fieldAddr s x f=>unfold EK Ux;rw[nC (hx x (by simp)),dP (hx x (by simp))]
 case field s x f=>unfold Xb;rw[kM (hx x (by simp))]
 case indexAddr t x i=>unfold F6 UF;rw[dP (hx x (by simp)),dP (hx i (by simp))]
 case index t x i=>unfold XK;rw[kM (hx x (by simp)),sQ (hx i (by simp))]
 case extract t i=>unfold MQ;rw[hx t (by simp)]
 case call c=>
  have hargs:∀x∈c.args.toList,ev fr x=ev fr' x:=λx hxa=>hx x (by simp[Call.operands];exact .inr (by simpa using hxa))
  cases hc:c.callee<;>simp only[lZ]
  rename_i b
  unfold iG
  split
  ·unfold a4e a3A
   rw[EU hargs,EU hargs]
  ·unfold OJ
   split
   ·rename_i x _ hl
    rw[dP (hargs x (by simp[hl]))]
   ·rfl
  ·rw[sJ hargs,Tf hargs]
  ·rw[sJ hargs]
theorem CZ {h:Heap}{fl:Nat}{f:Operand}{as:List Operand}(hf:ev fr f=ev fr' f)(ha:∀x∈as,ev fr x=ev fr' x):mM C fr h fl f as=mM C fr' h fl f as:=by
 unfold mM
 rw[dP hf,rC λx hx=>kM (ha x hx)]
theorem Ll {h hw:Heap}{fl:Nat}{o:Op}{f:Operand}{as:List Operand}(hh:how C fr h hw fl o=.c f as):f∈o.operands/\∀x∈as,x∈o.operands:=by
 cases o<;>simp only[how]at hh<;>(try(cases hh;done))
 case load t x=>unfold qL at hh;split at hh<;>cases hh
 case convert s d x=>unfold qI at hh;split at hh<;>cases hh
 case call c=>
  cases hc:c.callee<;>simp only[hc,lZ]at hh<;>(try(cases hh;done))
  ·cases hh
   exact⟨by simp[Op.operands,Call.operands,hc],λx hx=>by simp[Op.operands,Call.operands];exact .inr (by simpa using hx)⟩
  ·unfold iG at hh
   split at hh<;>cases hh
end
theorem Oi (j k:Nat):aia (aif 1 k) j=decide (j=k):=by
 show aia (1 <<< k) j=_
 rw[Nat.shiftLeft_eq,Nat.one_mul,Nat.testBit_two_pow]
 exact afG.2 ⟨λh=>h.symm,λh=>h.symm⟩
theorem Nh (an:List Nat)(j:Nat):∀(es:List Edge) (s:Nat),
  aia (es.foldl (λs e=>bif Region.binds .any e then Nat.lor (Nat.lor s (aif 1 e.on)) ((nth an e.on).getD 0)else s) s) j=true↔
   aia s j=true\/∃e∈es,Region.binds .any e=true/\(e.on=j\/aia ((nth an e.on).getD 0) j=true)
 |[],s=>by simp
 |e::es,s=>by
  rw[ahy,Nh an j es]
  cases hb:Region.binds .any e
  ·simp[hb]
  ·have e1:aia (Nat.lor (Nat.lor s (aif 1 e.on)) ((nth an e.on).getD 0)) j=(aia s j||decide (j=e.on)||aia ((nth an e.on).getD 0) j):=by
    show aia ((s ||| aif 1 e.on) ||| (nth an e.on).getD 0) j=_
    rw[Nat.testBit_or,Nat.testBit_or,Oi]
   simp only[aeW,e1,afJ,af6]
   constructor
   ·rintro (((h|h)|h)|⟨e',h1,h2⟩)
    ·exact .inl h
    ·exact .inr ⟨e,by simp,hb,.inl h.symm⟩
    ·exact .inr ⟨e,by simp,hb,.inr h⟩
    ·exact .inr ⟨e',by simp[h1],h2⟩
   ·rintro (h|⟨e',h1,h2,h3⟩)
    ·exact .inl (.inl (.inl h))
    ·rcases aeQ.1 h1 with rfl|h1
     ·rcases h3 with h3|h3
      ·exact .inl (.inl (.inr h3.symm))
      ·exact .inl (.inr h3)
     ·exact .inr ⟨e',h1,h2,h3⟩
theorem Yf (an:List Nat)(o:Oper)(j:Nat):aia (jH an o) j=true↔∃e∈o.after.toList,Region.binds .any e=true/\(e.on=j\/aia ((nth an e.on).getD 0) j=true):=by
 unfold jH
 rw[Nh]
 simp
theorem Jr (ops:List Oper)(o:Oper)(c m:Nat):∀(xs:List Oper) (ks:List Nat) (i:Nat),oO ops o c m i xs ks=true->∀j x k,xs[j]? =some x->ks[j]? =some k->
  aia m (i+j)=true\/(IE ops x o=true/\(c=2->k=0)/\(k=2->c=0))
 |[],_,_,_,j,x,k,h,_=>by simp at h
 |_::_,[],_,_,j,x,k,_,h=>by simp at h
 |y::xs,q::ks,i,h,j,x,k,h1,h2=>by
  simp only[oO,aeI]at h
  cases j with
  |zero=>
   simp at h1 h2
   subst h1;subst h2
   have:=h.1
   simp only[afJ,aeI,ag3,Bool.and_eq_false_iff]at this
   rcases this with h|⟨⟨h,h'⟩,h''⟩
   ·exact .inl h
   ·refine .inr ⟨h,λe=>?_,λe=>?_⟩
    ·subst e
     rcases h' with h'|h'
     ·simp at h'
     ·simpa using h'
    ·subst e
     rcases h'' with h'|h'
     ·simp at h'
     ·simpa using h'
  |succ j=>
   have:=Jr ops o c m xs ks (i+1) h.2 j x k (by simpa using h1) (by simpa using h2)
   rwa[show i+1+j=i+(j+1)by omega]at this
theorem apart_spec {ops:List Oper}{x y:Oper}(h:IE ops x y=true):(∀d,x.dst=some d->d∉nO ops y/\y.dst≠some d)/\(∀d,y.dst=some d->d∉nO ops x):=by
 unfold IE at h
 simp only[aeI]at h
 constructor
 ·intro d hd
  have h1:=h.1
  rw[hd]at h1
  simp only[aeI,aeV]at h1
  refine⟨λhm=>by have:=h1.1 d hm;simp at this,λe=>?_⟩
  have h2:=h1.2
  rw[e]at h2
  simp at h2
 ·intro d hd
  have h1:=h.2
  rw[hd]at h1
  simp only[aeV]at h1
  exact λhm=>by have:=h1 d hm;simp at this
theorem WQ {ops:List Oper}{o:Oper}{t:Tmp}(h:.tmp t∈o.op.operands.toList):t∈nO ops o:=by
 unfold nO
 rw[afl]
 left
 rw[List.mem_filterMap]
 exact⟨.tmp t,h,rfl⟩
theorem AL {ops:List Oper}{o:Oper}{j:Nat}{b:Bool}(h:o.guard=some (j,b)){g:Oper}(hg:nth ops j=some g){d:Tmp}(hd:g.dst=some d):d∈nO ops o:=by
 unfold nO
 rw[afl]
 right
 rw[h]
 simp[hg,hd]
theorem a6e {ops:List Oper}{o:Oper}{fr fr':Fr}(h:∀t∈nO ops o,nth fr t=nth fr' t):∀x∈o.op.operands,ev fr x=ev fr' x:=by
 intro x hx
 cases x with
 |tmp t=>exact h t (WQ (by simpa using hx))
 |const v=>rfl
 |global g=>rfl
 |func f=>rfl
theorem Sz {ops:List Oper}{o:Oper}{fr fr':Fr}(h:∀t∈nO ops o,nth fr t=nth fr' t):gV ops o fr=gV ops o fr':=by
 unfold gV
 cases hg:o.guard with
 |none=>rfl
 |some g=>
  obtain⟨j,b⟩:=g
  have:uI ops fr j=uI ops fr' j:=by
   unfold uI
   cases hj:nth ops j with
   |none=>rfl
   |some q=>
    simp only[lW]
    cases hd:q.dst with
    |none=>rfl
    |some d=>simp only[lW,h d (AL hg hj hd)]
  simp only[this]
theorem Ru {ops:List Oper}{o:Oper}{fr fr':Fr}(h:∀t∈nO ops o,nth fr t=nth fr' t):jC ops o fr=jC ops o fr':=by
 unfold jC
 cases hg:o.guard with
 |none=>rfl
 |some g=>
  obtain⟨j,b⟩:=g
  cases hj:nth ops j with
  |none=>simp only[hj]
  |some q=>
   cases hd:q.dst with
   |none=>simp only[hj,hd]
   |some d=>simp only[hj,hd,h d (AL hg hj hd)]
def Fre (C:Ctx)(fr:Fr)(h0:Heap)(o:Oper)(l:Nat)(v:V):Prop:=∃t x T off cs y,o.op=.load t x/\C.ty t=some T/\vH fr x=some (l,off)/\h0.read l off T.size=some cs/\T.mk' cs=some y/\v=.a y
structure Step (C:Ctx)(fl:Nat)(ops:List Oper)(h0:Heap)(σ:RS)(o:Oper)(m:Nat)(σ':RS)(k:Nat)(v:V)(D:Hp)(h':Heap)(q:Option Nat):Prop where
 edges:oJ σ.os.length o=true
 guard:jC ops o σ.fr=true
 pairs:oO ops o k m 0 σ.os σ.cl=true
 fr:σ'.fr=J6 σ.fr o.dst v
 an:σ'.an=σ.an++[m]
 cl:σ'.cl=σ.cl++[k]
 os:σ'.os=σ.os++[o]
 nx:σ.nx<=σ'.nx
 kind:(k=0/\D=[]/\σ'.hb=σ.hb/\σ'.ds=σ.ds++[[]]/\σ'.nx=σ.nx/\((gV ops o σ.fr=false/\v=undef)\/(gV ops o σ.fr=true/\∃h hw fl,how C σ.fr h hw fl o.op=.p (some v))\/(gV ops o σ.fr=true/\∃l,q=some l/\Fre C σ.fr h0 o l v)))\/
  (k=1/\D=a0l σ.nx h'.m/\σ'.hb=σ.hb/\σ'.ds=σ.ds++[D]/\σ'.nx=h'.next/\gV ops o σ.fr=true/\
   ∃w,how C σ.fr ⟨sD m 0 σ.ds++σ.hb,σ.nx⟩ ⟨σ.ds.flatten++σ.hb,σ.nx⟩ fl o.op=w/\
    (w=.q (some (v,h'))\/(∃r,w=.qw (some (v,h')) r)\/∃f as,w=.c f as/\mM C σ.fr ⟨sD m 0 σ.ds++σ.hb,σ.nx⟩ σ.nx f as=some (v,h')))\/
  (k=2/\D=[]/\σ'.hb=h'.m/\σ'.ds=(σ.ds++[[]]).map (λ_=>[])/\σ'.nx=h'.next/\gV ops o σ.fr=true/\
   ∃w,how C σ.fr ⟨sD m 0 σ.ds++σ.hb,σ.nx⟩ ⟨σ.ds.flatten++σ.hb,σ.nx⟩ fl o.op=w/\
    (w=.w (some (v,h'))\/(∃r,w=.qw r (some (v,h')))\/∃f as,w=.c f as/\mM C σ.fr ⟨σ.ds.flatten++σ.hb,σ.nx⟩ fl f as=some (v,h')))
theorem yT {C:Ctx}{fl:Nat}{ops:List Oper}{h0:Heap}{q:Option Nat}{σ σ':RS}{o:Oper}{m:Nat}{v:V}(he:oJ σ.os.length o=true)(hgo:jC ops o σ.fr=true)(h:endP ops σ o m v=some σ')
  (hk:(gV ops o σ.fr=false/\v=undef)\/(gV ops o σ.fr=true/\∃h hw fl,how C σ.fr h hw fl o.op=.p (some v))\/(gV ops o σ.fr=true/\∃l,q=some l/\Fre C σ.fr h0 o l v)):Step C fl ops h0 σ o m σ' 0 v [] ⟨[],0⟩ q:=by
 unfold endP at h
 cases hp:oO ops o 0 m 0 σ.os σ.cl<;>rw[hp]at h<;>cases h
 exact⟨he,hgo,hp,rfl,rfl,rfl,rfl,aeM _,.inl ⟨rfl,rfl,rfl,rfl,rfl,hk⟩⟩
theorem step_some {C:Ctx}{fl:Nat}{ops:List Oper}(h0:Heap){σ σ':RS}{o:Oper}{m:Nat}(h:stepD C fl ops σ o m=some σ'):∃k v D h',Step C fl ops h0 σ o m σ' k v D h' none:=by
 unfold stepD at h
 cases heg:(oJ σ.os.length o&&jC ops o σ.fr)<;>rw[heg]at h<;>simp only[aeW,aeS]at h
 ·cases h
 obtain⟨he,hgo⟩:oJ σ.os.length o=true/\jC ops o σ.fr=true:=by simpa using heg
 cases hw:gV ops o σ.fr<;>rw[hw]at h<;>simp only[aeW,aeS]at h
 ·exact⟨_,_,_,_,yT he hgo h (.inl ⟨hw,rfl⟩)⟩
 have hQ:∀{v:V} {h':Heap},a1Q ops σ o m (v,h')=some σ'->(∃w,how C σ.fr ⟨sD m 0 σ.ds++σ.hb,σ.nx⟩ ⟨σ.ds.flatten++σ.hb,σ.nx⟩ fl o.op=w/\
    (w=.q (some (v,h'))\/(∃r,w=.qw (some (v,h')) r)\/∃f as,w=.c f as/\mM C σ.fr ⟨sD m 0 σ.ds++σ.hb,σ.nx⟩ σ.nx f as=some (v,h')))->∃k v D h',Step C fl ops h0 σ o m σ' k v D h' none:=by
  intro v h' hq hk
  unfold a1Q at hq
  cases hp:(oO ops o 1 m 0 σ.os σ.cl&&aib σ.nx h'.next)<;>simp only[hp]at hq<;>cases hq
  simp only[aeI]at hp
  exact⟨1,v,_,h',he,hgo,hp.1,rfl,rfl,rfl,rfl,aff hp.2,.inr (.inl ⟨rfl,rfl,rfl,rfl,rfl,hw,hk⟩)⟩
 have hW:∀{v:V} {h':Heap},endW ops σ o m (v,h')=some σ'->(∃w,how C σ.fr ⟨sD m 0 σ.ds++σ.hb,σ.nx⟩ ⟨σ.ds.flatten++σ.hb,σ.nx⟩ fl o.op=w/\
    (w=.w (some (v,h'))\/(∃r,w=.qw r (some (v,h')))\/∃f as,w=.c f as/\mM C σ.fr ⟨σ.ds.flatten++σ.hb,σ.nx⟩ fl f as=some (v,h')))->∃k v D h',Step C fl ops h0 σ o m σ' k v D h' none:=by
  intro v h' hq hk
  unfold endW at hq
  cases hp:(oO ops o 2 m 0 σ.os σ.cl&&aib σ.nx h'.next)<;>simp only[hp]at hq<;>cases hq
  simp only[aeI]at hp
  exact⟨2,v,_,h',he,hgo,hp.1,rfl,rfl,rfl,rfl,aff hp.2,.inr (.inr ⟨rfl,rfl,rfl,rfl,rfl,hw,hk⟩)⟩
 unfold ad1 at h
 cases hh:how C σ.fr ⟨sD m 0 σ.ds++σ.hb,σ.nx⟩ ⟨σ.ds.flatten++σ.hb,σ.nx⟩ fl o.op with
 |p x=>
  rw[hh]at h
  obtain⟨v,rfl,h⟩:=aj h
  exact⟨_,_,_,_,yT he hgo h (.inr (.inl ⟨hw,_,_,_,hh⟩))⟩
 |q x=>
  rw[hh]at h
  obtain⟨v,rfl,h⟩:=aj h
  exact hQ h ⟨_,hh,.inl rfl⟩
 |w x=>
  rw[hh]at h
  obtain⟨v,rfl,h⟩:=aj h
  exact hW h ⟨_,hh,.inl rfl⟩
 |qw x y=>
  rw[hh]at h
  cases x with
  |some x=>exact hQ h ⟨_,hh,.inr (.inl ⟨_,rfl⟩)⟩
  |none=>
   obtain⟨v,rfl,h⟩:=aj (show ob y (endW ops σ o m)=some σ' from h)
   exact hW h ⟨_,hh,.inr (.inl ⟨_,rfl⟩)⟩
 |c f as=>
  rw[hh]at h
  cases hc:mM C σ.fr ⟨sD m 0 σ.ds++σ.hb,σ.nx⟩ σ.nx f as with
  |some x=>simp only[hc]at h;exact hQ h ⟨_,hh,.inr (.inr ⟨f,as,rfl,hc⟩)⟩
  |none=>
   simp only[hc]at h
   obtain⟨v,hv,h⟩:=aj (show ob (mM C σ.fr ⟨σ.ds.flatten++σ.hb,σ.nx⟩ fl f as) (endW ops σ o m)=some σ' from h)
   exact hW h ⟨_,hh,.inr (.inr ⟨f,as,rfl,hv⟩)⟩
theorem Lj {C:Ctx}{fl:Nat}{ops:List Oper}:∀(l:List Oper) (σ σ':RS),a6i C fl ops l σ=some σ'->
  ∃st:Nat->RS,st 0=σ/\st l.length=σ'/\∀i o,l[i]? =some o->stepD C fl ops (st i) o (jH (st i).an o)=some (st (i+1))
 |[],σ,σ',h=>by cases h;exact⟨λ_=>σ,rfl,rfl,λi o h=>by simp at h⟩
 |o::l,σ,σ',h=>by
  obtain⟨σ1,h1,h2⟩:=aj (show ob (stepD C fl ops σ o (jH σ.an o)) (a6i C fl ops l)=some σ' from h)
  obtain⟨st,e0,e1,e2⟩:=Lj l σ1 σ' h2
  refine⟨λi=>match i with |0=>σ|i+1=>st i,rfl,e1,λi q hq=>?_⟩
  cases i with
  |zero=>simp at hq;subst hq;simp only[e0];exact h1
  |succ i=>exact e2 i q (by simpa using hq)
end Am
namespace Am
noncomputable section
variable [Base]
structure Tr (C:Ctx)(fl:Nat)(ops:List Oper)(fr0:Fr)(h0:Heap) where
 st:Nat->RS
 k:Nat->Nat
 v:Nat->V
 D:Nat->Hp
 H:Nat->Heap
 q:Nat->Option Nat
 st0:st 0=⟨fr0,h0.m,[],[],[],[],h0.next⟩
 step:∀i o,ops[i]? =some o->Step C fl ops h0 (st i) o (jH (st i).an o) (st (i+1)) (k i) (v i) (D i) (H i) (q i)
theorem Tr.make {C:Ctx}{fl:Nat}{ops:List Oper}{fr0:Fr}{h0:Heap}{σ:RS}(h:a6i C fl ops ops ⟨fr0,h0.m,[],[],[],[],h0.next⟩=some σ):∃T:Tr C fl ops fr0 h0,T.st ops.length=σ/\∀i,T.q i=none:=by
 obtain⟨st,e0,e1,e2⟩:=Lj ops _ _ h
 have:∀i,∃q:Nat×V×Hp×Heap,∀o,ops[i]? =some o->Step C fl ops h0 (st i) o (jH (st i).an o) (st (i+1)) q.1 q.2.1 q.2.2.1 q.2.2.2 none:=λi=>by
  cases ho:ops[i]? with
  |none=>exact⟨(0,undef,[],⟨[],0⟩),λo h=>by cases h⟩
  |some o=>
   obtain⟨k,v,D,h',hs⟩:=step_some h0 (e2 i o ho)
   exact⟨(k,v,D,h'),λo' h=>by cases h;exact hs⟩
 obtain⟨f,hf⟩:=Classical.skolem.1 this
 exact⟨⟨st,λi=>(f i).1,λi=>(f i).2.1,λi=>(f i).2.2.1,λi=>(f i).2.2.2,λ_=>none,e0,hf⟩,e1,λ_=>rfl⟩
section
variable {C:Ctx} {fl:Nat} {ops:List Oper} {fr0:Fr} {h0:Heap} (T:Tr C fl ops fr0 h0)
def Tr.m (i:Nat):Nat:=match ops[i]? with |some o=>jH (T.st i).an o|none=>0
def Tr.nx (i:Nat):Nat:=(T.st i).nx
def Tr.ep (L:Nat->Bool):Nat->Nat
 |0=>0
 |i+1=>if L i=true/\T.k i=2 then i+1 else Tr.ep L i
def every (_:Nat):Bool:=true
def Tr.dst (_:Tr C fl ops fr0 h0)(i:Nat):Option Tmp:=(ops[i]?).bind (·.dst)
def Tr.slot (L:Nat->Bool):Nat->Nat->Option (V×Nat)
 |0,t=>(nth fr0 t).map λv=>(v,T.nx 0)
 |i+1,t=>if L i=true/\T.dst i=some t/\t<fr0.length then some (T.v i,T.nx (i+1))else Tr.slot L i t
theorem Tr.SG {i:Nat}(hi:i<ops.length)(h:T.k i≠1):T.D i=[]:=by
 rcases(T.step i ops[i] (aeK hi)).kind with g|g|g
 ·exact g.2.1
 ·exact absurd g.1 h
 ·exact g.2.1
theorem Tr.os:∀i,i<=ops.length->(T.st i).os=ops.take i
 |0,_=>by rw[T.st0];simp
 |i+1,h=>by
  have hi:i<ops.length:=h
  rw[(T.step i ops[i] (aeK hi)).os,Tr.os i (by omega),afN hi]
theorem Tr.an:∀i,i<=ops.length->(T.st i).an.length=i/\∀j,j<i->(T.st i).an[j]? =some (T.m j)
 |0,_=>by rw[T.st0];exact⟨rfl,λj hj=>by omega⟩
 |i+1,h=>by
  have hi:i<ops.length:=h
  have ho:ops[i]? =some ops[i]:=aeK hi
  obtain⟨h1,h2⟩:=Tr.an i (by omega)
  rw[(T.step i ops[i] ho).an]
  refine⟨by simp[h1],λj hj=>?_⟩
  by_cases e:j=i
  ·subst e
   rw[af7 (by omega),h1]
   simp[Tr.m,ho]
  ·rw[af5 (by omega)]
   exact h2 j (by omega)
theorem Tr.cl:∀i,i<=ops.length->(T.st i).cl.length=i/\∀j,j<i->(T.st i).cl[j]? =some (T.k j)
 |0,_=>by rw[T.st0];exact⟨rfl,λj hj=>by omega⟩
 |i+1,h=>by
  have hi:i<ops.length:=h
  have ho:ops[i]? =some ops[i]:=aeK hi
  obtain⟨h1,h2⟩:=Tr.cl i (by omega)
  rw[(T.step i ops[i] ho).cl]
  refine⟨by simp[h1],λj hj=>?_⟩
  by_cases e:j=i
  ·subst e
   rw[af7 (by omega),h1]
   simp
  ·rw[af5 (by omega)]
   exact h2 j (by omega)
theorem Tr.ni {i j:Nat}(hij:i<=j)(hj:j<=ops.length):T.nx i<=T.nx j:=by
 induction j with
 |zero=>
     obtain rfl:i=0:=by omega
     exact aeM _
 |succ j ih=>
  by_cases e:i=j+1
  ·rw[e];exact aeM _
  ·exact afv (ih (by omega) (by omega)) (T.step j ops[j] (aeK (by omega))).nx
theorem Tr.Ia (L:Nat->Bool):∀i,T.ep L i<=i
 |0=>aeM _
 |i+1=>by
  unfold Tr.ep
  have:=Tr.Ia L i
  split<;>omega
theorem Tr.yx {L L':Nat->Bool}:∀{i:Nat},(∀j,j<i->T.k j=2->L j=L' j)->T.ep L i=T.ep L' i
 |0,_=>rfl
 |i+1,h=>by
  unfold Tr.ep
  rw[Tr.yx λj hj hk=>h j (by omega) hk]
  by_cases hk:T.k i=2
  ·rw[h i (by omega) hk]
  ·simp[hk]
theorem Tr.Oe {L:Nat->Bool}{i:Nat}:∀{n:Nat},i<=n->(∀j,i<=j->j<n->T.k j=2->L j=false)->T.ep L n=T.ep L i
 |0,h,_=>by
     obtain rfl:i=0:=by omega
     rfl
 |n+1,h,hn=>by
  by_cases e:i=n+1
  ·rw[e]
  ·have:¬(L n=true/\T.k n=2):=λ⟨h1,h2⟩=>by rw[hn n (by omega) (by omega) h2]at h1;cases h1
   conv=>lhs;unfold Tr.ep
   rw[afc this]
   exact Tr.Oe (by omega) λj h1 h2 h3=>hn j h1 (by omega) h3
theorem Tr.hb:∀i,i<=ops.length->(T.st i).hb=(T.st (T.ep every i)).hb
 |0,_=>rfl
 |i+1,h=>by
  have hi:i<ops.length:=h
  have hs:=T.step i ops[i] (aeK hi)
  unfold Tr.ep
  by_cases hk:T.k i=2
  ·rw[afm ⟨rfl,hk⟩]
  ·rw[afc (λh=>hk h.2),<-Tr.hb i (by omega)]
   rcases hs.kind with g|g|g
   ·exact g.2.2.1
   ·exact g.2.2.1
   ·exact absurd g.1 hk
theorem Tr.ds:∀i,i<=ops.length->(T.st i).ds.length=i/\∀j,j<i->(T.st i).ds[j]? =some (if T.ep every i<=j then T.D j else[])
 |0,_=>by rw[T.st0];exact⟨rfl,λj hj=>by omega⟩
 |i+1,h=>by
  have hi:i<ops.length:=h
  have hs:=T.step i ops[i] (aeK hi)
  obtain⟨h1,h2⟩:=Tr.ds i (by omega)
  have key:∀X:Hp,T.k i≠2->(T.st (i+1)).ds=(T.st i).ds++[X]->X=T.D i->(T.st (i+1)).ds.length=i+1/\∀j,j<i+1->(T.st (i+1)).ds[j]? =some (if T.ep every (i+1)<=j then T.D j else[]):=by
   intro X hk e eX
   rw[e]
   refine⟨by simp[h1],λj hj=>?_⟩
   have hep:T.ep every (i+1)=T.ep every i:=by
       conv=>lhs;unfold Tr.ep
       rw[afc (λh=>hk h.2)]
   rw[hep]
   by_cases ej:j=i
   ·subst ej
    rw[af7 (by omega),h1,eX,afm (T.Ia _ _)]
    simp
   ·rw[af5 (by omega)]
    exact h2 j (by omega)
  rcases hs.kind with g|g|g
  ·exact key [] (by omega) g.2.2.2.1 g.2.1.symm
  ·exact key _ (by omega) g.2.2.2.1 rfl
  ·rw[g.2.2.2.1]
   refine⟨by simp[h1],λj hj=>?_⟩
   have hep:T.ep every (i+1)=i+1:=by unfold Tr.ep;rw[afm ⟨rfl,g.1⟩]
   rw[hep,afc (by omega),aeT,aeK (by simp;omega)]
   rfl
theorem Tr.pair {i j:Nat}(hj:j<i)(hi:i<ops.length){x y:Oper}(hx:ops[j]? =some x)(hy:ops[i]? =some y):
  aia (T.m i) j=true\/(IE ops x y=true/\(T.k i=2->T.k j=0)/\(T.k j=2->T.k i=0)):=by
 have hs:=T.step i y hy
 have h1:(T.st i).os[j]? =some x:=by rw[T.os i (by omega),ag5 hj];exact hx
 have:=Jr ops y _ _ _ _ 0 hs.pairs j x (T.k j) h1 ((T.cl i (by omega)).2 j hj)
 rw[afK]at this
 have hm:T.m i=jH (T.st i).an y:=by simp[Tr.m,hy]
 rwa[hm]
theorem Tr.frame:∀i,i<=ops.length->(T.st i).fr.length=fr0.length/\∀t,nth (T.st i).fr t=(T.slot every i t).map (·.1)
 |0,_=>by
  rw[T.st0]
  refine⟨rfl,λt=>?_⟩
  show nth fr0 t=_
  unfold Tr.slot
  cases nth fr0 t<;>rfl
 |i+1,h=>by
  have hi:i<ops.length:=h
  have ho:ops[i]? =some ops[i]:=aeK hi
  have hs:=T.step i ops[i] ho
  obtain⟨h1,h2⟩:=Tr.frame i (by omega)
  rw[hs.fr]
  have hd:T.dst i=ops[i].dst:=by simp[Tr.dst,ho]
  cases hdd:ops[i].dst with
  |none=>
   refine⟨h1,λt=>?_⟩
   show nth (T.st i).fr t=_
   conv=>rhs;unfold Tr.slot
   rw[hd,hdd,afc (by simp)]
   exact h2 t
  |some d=>
   refine⟨?_,λt=>?_⟩
   ·show(upd (T.st i).fr d (T.v i)).length=_
    rw[Jl];simpa using h1
   ·show nth (upd (T.st i).fr d (T.v i)) t=_
    rw[Jl,aI,List.getElem?_set]
    conv=>rhs;unfold Tr.slot
    rw[hd,hdd,h1]
    by_cases e:d=t
    ·subst e
     by_cases hl:d<fr0.length
     ·simp[hl,every]
     ·have h2d:=h2 d
      rw[aI,afT (by rw[h1];exact ag2 hl)]at h2d
      simp only[hl,agA,agL,and_false]
      exact h2d
    ·have e':¬(some d=some t):=by simpa using e
     simp only[e,agA,e',false_and,and_false]
     rw[<-h2 t,aI]
theorem Tr.ZN {L:Nat->Bool}{i:Nat}(hi:i<ops.length){o:Oper}(ho:ops[i]? =some o)(hLi:L i=false)(hdc:∀p q,L p=true->p<ops.length->aia (T.m p) q=true->L q=true)
  (hr:∀q,aia (T.m i) q=true->L q=true) {t:Nat} (ht:t∈nO ops o):T.slot L ops.length t=T.slot every i t:=by
 have h1:∀n,i<=n->n<=ops.length->T.slot L n t=T.slot L i t:=by
  intro n
  induction n with
  |zero=>
      intro h _;obtain rfl:i=0:=by omega
      rfl
  |succ n ih=>
   intro h hn
   by_cases e:i=n+1
   ·rw[e]
   ·rw[<-ih (by omega) (by omega)]
    conv=>lhs;unfold Tr.slot
    rw[afc]
    rintro⟨g1,g2,_⟩
    by_cases e':n=i
    ·subst e';rw[hLi]at g1;cases g1
    ·have hn':n<ops.length:=by omega
     have hx:ops[n]? =some ops[n]:=aeK hn'
     rcases T.pair (show i<n by omega) hn' ho hx with g|⟨g,_⟩
     ·have:=hdc n i g1 hn' g
      rw[hLi]at this;cases this
     ·have gd:ops[n].dst=some t:=by simpa[Tr.dst,hx]using g2
      exact(apart_spec g).2 t gd ht
 have h2:∀n,n<=i->T.slot L n t=T.slot every n t:=by
  intro n
  induction n with
  |zero=>intro _;rfl
  |succ n ih=>
   intro hn
   unfold Tr.slot
   rw[ih (by omega)]
   by_cases g:T.dst n=some t/\t<fr0.length
   ·have hx:ops[n]? =some ops[n]:=aeK (by omega)
    have hL:L n=true:=by
     rcases T.pair (show n<i by omega) hi hx ho with g'|⟨g',_⟩
     ·exact hr n g'
     ·have gd:ops[n].dst=some t:=by simpa[Tr.dst,hx]using g.1
      exact absurd ht ((apart_spec g').1 t gd).1
    rw[hL]
    rfl
   ·rw[afc (λh=>g h.2),afc (λh=>g h.2)]
 rw[h1 ops.length (by omega) (aeM _),h2 i (aeM _)]
theorem Tr.Ho {L:Nat->Bool}{i:Nat}(hi:i<ops.length){o:Oper}(ho:ops[i]? =some o)(hLi:L i=false)(hdc:∀p q,L p=true->p<ops.length->aia (T.m p) q=true->L q=true)(t:Nat):
  T.slot (λj=>if j=i then true else L j) ops.length t=if o.dst=some t/\t<fr0.length then some (T.v i,T.nx (i+1))else T.slot L ops.length t:=by
 have hd:T.dst i=o.dst:=by simp[Tr.dst,ho]
 have h2:∀n,n<=i->T.slot (λj=>if j=i then true else L j) n t=T.slot L n t:=by
  intro n
  induction n with
  |zero=>intro _;rfl
  |succ n ih=>
   intro hn
   unfold Tr.slot
   rw[ih (by omega)]
   simp only[show n≠i by omega,agA]
 have h1:∀n,i<n->n<=ops.length->T.slot (λj=>if j=i then true else L j) n t=if o.dst=some t/\t<fr0.length then some (T.v i,T.nx (i+1))else T.slot L n t:=by
  intro n
  induction n with
  |zero=>intro h _;omega
  |succ n ih=>
   intro h hn
   by_cases e:n=i
   ·subst e
    conv=>lhs;unfold Tr.slot
    conv=>rhs;unfold Tr.slot
    rw[h2 n (aeM _),hd]
    simp[hLi]
   ·have hn':n<ops.length:=by omega
    have hx:ops[n]? =some ops[n]:=aeK hn'
    conv=>lhs;unfold Tr.slot
    conv=>rhs;unfold Tr.slot
    rw[ih (by omega) (by omega)]
    simp only[e,agA]
    by_cases g:L n=true/\T.dst n=some t/\t<fr0.length
    ·rw[afm g]
     have hno:¬(o.dst=some t/\t<fr0.length):=by
      rintro⟨g1,_⟩
      rcases T.pair (show i<n by omega) hn' ho hx with g'|⟨g',_⟩
      ·have:=hdc n i g.1 hn' g'
       rw[hLi]at this;cases this
      ·have gd:ops[n].dst=some t:=by simpa[Tr.dst,hx]using g.2.1
       exact((apart_spec g').1 t g1).2 gd
     rw[afc hno,afm g]
    ·rw[afc g,afc g]
 exact h1 ops.length hi (aeM _)
theorem Tr.II {L:Nat->Bool}:∀{i:Nat},i<=ops.length->∀{t:Nat} {v:V} {q:Nat},T.slot L i t=some (v,q)->q<=T.nx i
 |0,_,t,v,q,h=>by
  unfold Tr.slot at h
  cases hn:nth fr0 t<;>rw[hn]at h<;>cases h
  exact aeM _
 |i+1,hi,t,v,q,h=>by
  unfold Tr.slot at h
  split at h
  ·cases h;exact aeM _
  ·exact afv (Tr.II (by omega) h) (T.ni (by omega) hi)
end
end
variable [Base]
def Ren.cut (r:Ren)(n:Nat):Ren:=⟨λl=>r.ok l/\l<n,r.blk,r.off,r.cap⟩
theorem Ren.U3 (r:Ren)(n:Nat):(r.cut n).le r:=⟨λ_ h=>h.1,λ_ _=>rfl,λ_ _=>rfl,λ_ _=>rfl⟩
theorem Ren.le.cut {r r':Ren}(h:r.le r'){n n':Nat}(hn:n<=n'):(r.cut n).le (r'.cut n'):=
 ⟨λl hl=>⟨h.n l hl.1,afe hl.2 hn⟩,λl hl=>h.blk l hl.1,λl hl=>h.off l hl.1,λl hl=>h.cap l hl.1⟩
theorem VV.exact {r r':Ren}(h:r.le r'){x:V}{v:Value}(k:VV r x v):VV r' x v:=VV.mono h k
theorem Hp.get_append (a b:Hp)(l:Nat):Hp.get (a++b) l=match Hp.get a l with |some x=>some x|none=>Hp.get b l:=by
 induction a with
 |nil=>rfl
 |cons p a ih=>
  rw[ag9,Hp.gQ,Hp.gQ]
  cases(p.1==l)
  ·exact ih
  ·rfl
theorem Dn (n:Nat):∀(m:Hp) {l:Nat} {b:Blk},Hp.get (a0l n m) l=some b->Hp.get m l=some b/\n<=l
 |[],l,b,h=>by cases h
 |p::m,l,b,h=>by
  unfold a0l at h
  rw[aio]at h
  cases hp:aib n p.1<;>rw[hp]at h
  ·simp only[ah4,agA]at h
   obtain⟨h1,h2⟩:=Dn n m h
   rw[Hp.gQ]
   have:(p.1==l)=false:=by
    cases e:(p.1==l)
    ·rfl
    ·have e':p.1=l:=by simpa using e
     rw[e',agb h2]at hp
     cases hp
   rw[this]
   exact⟨h1,h2⟩
  ·simp only[agL]at h
   rw[Hp.gQ]at h |-
   cases e:(p.1==l)<;>rw[e]at h
   ·exact Dn n m h
   ·have e':p.1=l:=by simpa using e
    exact⟨h,by rw[<-e'];exact aff hp⟩
theorem Pv (m:Nat):∀(ds:List Hp) (i:Nat) {l:Nat} {b:Blk},Hp.get (sD m i ds) l=some b->∃(j:Nat) (d:Hp),ds[j]? =some d/\aia m (i+j)=true/\Hp.get d l=some b
 |[],i,l,b,h=>by cases h
 |d::ds,i,l,b,h=>by
  unfold sD at h
  have rest:Hp.get (sD m (i+1) ds) l=some b->∃(j:Nat) (d':Hp),(d::ds)[j]? =some d'/\aia m (i+j)=true/\Hp.get d' l=some b:=λh=>by
   obtain⟨j,d',h1,h2,h3⟩:=Pv m ds (i+1) h
   exact⟨j+1,d',by simpa using h1,by rwa[show i+(j+1)=i+1+j by omega],h3⟩
  cases hm:aia m i<;>rw[hm]at h
  ·exact rest h
  ·simp only[aeW]at h
   rw[Hp.get_append]at h
   cases hd:Hp.get d l with
   |none=>rw[hd]at h;exact rest h
   |some x=>rw[hd]at h;cases h;exact⟨0,d,rfl,by simpa using hm,hd⟩
theorem oW:∀(ds:List Hp) {l:Nat} {b:Blk},Hp.get ds.flatten l=some b->∃(j:Nat) (d:Hp),ds[j]? =some d/\Hp.get d l=some b
 |[],l,b,h=>by cases h
 |d::ds,l,b,h=>by
  rw[afP,Hp.get_append]at h
  cases hd:Hp.get d l with
  |none=>
   rw[hd]at h
   obtain⟨j,d',h1,h2⟩:=oW ds h
   exact⟨j+1,d',by simpa using h1,h2⟩
  |some x=>rw[hd]at h;cases h;exact⟨0,d,rfl,hd⟩
section
variable {P:Program} {C:Ctx} {fl:Nat} {ops:List Oper} {s0:St} (T:Tr C fl ops s0.fr s0.h)
def PL (L:Nat->Bool)(l:Nat)(b:Blk):Prop:=
 (∃j,j<ops.length/\L j=true/\T.k j=1/\T.ep L ops.length<=j/\Hp.get (T.D j) l=some b)\/Hp.get (T.st (T.ep L ops.length)).hb l=some b
structure J (r0:Ren)(B:Nat)(a0:Act)(w0:World)(L:Nat->Bool)(r:Ren)(a:Act)(W:World):Prop where
 dc:∀p q,L p=true->p<ops.length->aia (T.m p) q=true->L q=true
 len:a.tmps.size=s0.fr.length
 defers:a.defers=a0.defers
 slot:∀t v q,T.slot L ops.length t=some (v,q)->∃u,a.tmps[t]? =some u/\VV (r.cut q) v u
 b:B<=W.heap.size
 base:HR (Hp.get (T.st (T.ep L ops.length)).hb) (r.cut (T.nx (T.ep L ops.length))) B W
 part:∀j,j<ops.length->L j=true->T.k j=1->T.ep L ops.length<=j->HR (Hp.get (T.D j)) (r.cut (T.nx (j+1))) B W/\∀l b,Hp.get (T.D j) l=some b->T.nx j<=l
 inj:∀l b l' b',PL T L l b->b.own=true->PL T L l' b'->b'.own=true->r.blk l=r.blk l'->l=l'
 okk:∀l,r.ok l->l<T.nx (T.ep L ops.length)\/∃j,j<ops.length/\L j=true/\T.k j=1/\T.ep L ops.length<=j/\T.nx j<=l/\l<T.nx (j+1)
 le:r0.le r
 okn:∀l,r.ok l->r0.ok l\/s0.h.next<=l
 os:W.os=w0.os
 tape:W.tape=w0.tape
 output:W.output=w0.output
 size:w0.heap.size<=W.heap.size
 frame:∀b,b<w0.heap.size->(∀l k,s0.h.get l=some k->k.own=true->fl<=l->r0.blk l≠b)->W.heap[b]? =w0.heap[b]?
 keep:∀l,l<s0.h.next->l<fl->Hp.get (T.st (T.ep L ops.length)).hb l=s0.h.get l
 old:∀l b',l<s0.h.next->Hp.get (T.st (T.ep L ops.length)).hb l=some b'->∃b,s0.h.get l=some b/\b.own=b'.own
 fresh:∀l b',s0.h.next<=l->PL T L l b'->b'.own=true/\(w0.heap.size<=r.blk l\/∃l0 b0,s0.h.get l0=some b0/\b0.own=true/\fl<=l0/\r.blk l=r0.blk l0)
theorem nx0:T.nx 0=s0.h.next:=by simp[Tr.nx,T.st0]
variable {T} {r0:Ren} {B:Nat} {a0:Act} {w0:World} {L:Nat->Bool} {r:Ren} {a:Act} {W:World}
theorem J.start (i:Inv s0.h r0 B w0)(f:FR r0 s0.fr a0):J T r0 B a0 w0 (λ_=>false) r0 a0 w0.drew:=by
 have hep:T.ep (λ_=>false) ops.length=0:=by
  have:∀n,T.ep (λ_=>false) n=0:=by
   intro n
   induction n with
   |zero=>rfl
   |succ n ih=>unfold Tr.ep;rw[afc (by simp)];exact ih
  exact this _
 have hhb:(T.st 0).hb=s0.h.m:=by rw[T.st0]
 have hsl:∀n t,T.slot (λ_=>false) n t=(nth s0.fr t).map λv=>(v,T.nx 0):=by
  intro n t
  induction n with
  |zero=>rfl
  |succ n ih=>unfold Tr.slot;rw[afc (by simp)];exact ih
 have hcut:r0.le (r0.cut s0.h.next):=⟨λl hl=>⟨hl,i.n l hl⟩,λ_ _=>rfl,λ_ _=>rfl,λ_ _=>rfl⟩
 have hpl:∀l b,PL T (λ_=>false) l b->s0.h.get l=some b:=λl b h=>by
  rcases h with⟨j,_,h,_⟩|h
  ·cases h
  ·rw[hep,hhb]at h;exact h
 refine⟨λp q h=>(by cases h),?_,rfl,λt v q h=>?_,i.b,?_,λj _ h=>(by cases h),λl b l' b' h1 o1 h2 o2 e=>?_,λl hl=>?_,Ren.le.refl _,λ_ h=>.inl h,rfl,rfl,rfl,aeM _,λ_ _ _=>rfl,λl _ _=>?_,λl b' _ h=>?_,λl b' hl h=>?_⟩
 ·have:=f.len;simp at this;omega
 ·rw[hsl]at h
  cases hn:nth s0.fr t with
  |none=>rw[hn]at h;cases h
  |some v'=>
   rw[hn]at h
   simp only[agn,afI,agf]at h
   obtain⟨rfl,rfl⟩:=h
   obtain⟨u,hu,hv⟩:=au.nth f hn
   exact⟨u,by simpa using hu,by rw[nx0];exact VV.mono hcut hv⟩
 ·rw[hep,hhb,nx0]
  exact(i.hr.mono hcut).keep i.b (λ_ _=>rfl)
 ·exact i.hr.inj l b l' b' (hpl l b h1) o1 (hpl l' b' h2) o2 e
 ·rw[hep,nx0];exact .inl (i.n l hl)
 ·rw[hep,hhb];rfl
 ·rw[hep,hhb]at h;exact⟨b',h,rfl⟩
 ·exact absurd (i.n l (i.hr.dom l b' (hpl l b' h))) (aip.2 hl)
abbrev put (L:Nat->Bool)(i:Nat):Nat->Bool:=λj=>if j=i then true else L j
structure Next (T:Tr C fl ops s0.fr s0.h)(L:Nat->Bool)(i:Nat)(o:Oper):Prop where
 lt:i<ops.length
 op:ops[i]? =some o
 no:L i=false
 all:∀q,aia (T.m i) q=true->L q=true
theorem J.dc' {r0:Ren}(j:J T r0 B a0 w0 L r a W){i:Nat}{o:Oper}(n:Next T L i o):∀p q,put L i p=true->p<ops.length->aia (T.m p) q=true->put L i q=true:=by
 intro p q h1 h2 h3
 simp only[put]at h1 |-
 split
 ·rfl
 ·by_cases e:p=i
  ·subst e;exact n.all q h3
  ·rw[afc e]at h1
   exact j.dc p q h1 h2 h3
theorem J.behind {r0:Ren}(j:J T r0 B a0 w0 L r a W){i:Nat}{o:Oper}(n:Next T L i o){p:Nat}(hp:i<p)(hl:p<ops.length)(hL:L p=true):(T.k p=2->T.k i=0)/\(T.k i=2->T.k p=0):=by
 have hx:ops[p]? =some ops[p]:=aeK hl
 rcases T.pair hp hl n.op hx with g|⟨_,g1,g2⟩
 ·have:=j.dc p i hL hl g
  rw[n.no]at this;cases this
 ·exact⟨g1,g2⟩
theorem J.ahead {i:Nat}{o:Oper}(n:Next T L i o){p:Nat}(hp:p<i):L p=true\/((T.k i=2->T.k p=0)/\(T.k p=2->T.k i=0)):=by
 have hx:ops[p]? =some (ops[p]'(ah5 hp n.lt)):=aeK _
 rcases T.pair hp n.lt hx n.op with g|⟨_,g1,g2⟩
 ·exact .inl (n.all p g)
 ·exact .inr ⟨g1,g2⟩
theorem J.epoch (j:J T r0 B a0 w0 L r a W){i:Nat}{o:Oper}(n:Next T L i o)(hk:T.k i≠0):T.ep L ops.length=T.ep every i:=by
 rw[T.Oe (i:=i) (afk n.lt) λp h1 h2 h3=>?_]
 ·refine T.yx λp hp h3=>?_
  rcases J.ahead n hp with g|g
  ·rw[g];rfl
  ·exact absurd (g.2 h3) hk
 ·cases hL:L p with
  |false=>rfl
  |true=>
   by_cases e:p=i
   ·subst e;rw[n.no]at hL;cases hL
   ·exact absurd ((j.behind n (by omega) h2 hL).1 h3) hk
theorem a2r {j j':Nat}(hj:j<ops.length)(hj':j'<ops.length){l:Nat}(h1:T.nx j<=l)(h2:l<T.nx (j+1))(h3:T.nx j'<=l)(h4:l<T.nx (j'+1)):j=j':=by
 rcases ah9 j j' with h|h|h
 ·have:=T.ni (show j+1<=j' by omega) (by omega);omega
 ·exact h
 ·have:=T.ni (show j'+1<=j by omega) (by omega);omega
theorem J.free (j:J T r0 B a0 w0 L r a W){i:Nat}{o:Oper}(n:Next T L i o)(hk:T.k i=0){u:Value}(hu:VV (r.cut (T.nx (i+1))) (T.v i) u):J T r0 B a0 w0 (put L i) r (a.put o.dst u) W:=by
 have hep:T.ep (put L i) ops.length=T.ep L ops.length:=T.yx λp _ h=>by
  by_cases e:p=i
  ·subst e;omega
  ·simp[put,e]
 have hpl:∀l b,PL T (put L i) l b->PL T L l b:=λl b h=>by
  rcases h with⟨q,h1,h2,h3,h4,h5⟩|h
  ·by_cases e:q=i
   ·subst e;omega
   ·exact .inl ⟨q,h1,by simpa[put,e]using h2,h3,by rw[hep]at h4;exact h4,h5⟩
  ·rw[hep]at h;exact .inr h
 refine⟨j.dc' n,?_,?_,λt v q h=>?_,j.b,?_,λq h1 h2 h3 h4=>?_,λl b l' b' h1 o1 h2 o2 e=>j.inj l b l' b' (hpl l b h1) o1 (hpl l' b' h2) o2 e,λl hl=>?_,j.le,j.okn,j.os,j.tape,j.output,j.size,j.frame,λl h1 h2=>?_,λl b' h1 h2=>?_,λl b' h1 h2=>j.fresh l b' h1 (hpl l b' h2)⟩
 ·rw[<-j.len];cases o.dst<;>simp[Act.put]
 ·rw[<-j.defers];cases o.dst<;>rfl
 ·rw[T.Ho n.lt n.op n.no j.dc t]at h
  split at h
  ·rename_i hd
   cases h
   refine⟨u,?_,hu⟩
   rw[hd.1]
   simp[Act.put,j.len,hd.2]
  ·rename_i hd
   obtain⟨u',h1,h2⟩:=j.slot t v q h
   refine⟨u',?_,h2⟩
   cases ho:o.dst with
   |none=>exact h1
   |some d=>
    have:¬d=t:=λe=>hd ⟨by rw[ho,e],by have:=(aeN.1 h1).1;rw[j.len]at this;exact this⟩
    simp[Act.put,this,h1]
 ·rw[hep];exact j.base
 ·by_cases e:q=i
  ·subst e;omega
  ·exact j.part q h1 (by simpa[put,e]using h2) h3 (by rw[hep]at h4;exact h4)
 ·rcases j.okk l hl with h|⟨q,h1,h2,h3,h4,h5⟩
  ·rw[hep];exact .inl h
  ·exact .inr ⟨q,h1,by simp[put,h2],h3,by rw[hep];exact h4,h5⟩
 ·rw[hep];exact j.keep l h1 h2
 ·rw[hep]at h2;exact j.old l b' h1 h2
theorem J.given (j:J T r0 B a0 w0 L r a W){i:Nat}{o:Oper}(n:Next T L i o)(hk:T.k i≠0){m:Nat->Option Blk}
  (hm:∀l b,m l=some b->(∃q,q<i/\L q=true/\T.ep every i<=q/\Hp.get (T.D q) l=some b)\/Hp.get (T.st (T.ep every i)).hb l=some b):
  (∀l b,m l=some b->PL T L l b)/\HR m (r.cut (T.nx i)) B W:=by
 have he:=j.epoch n hk
 have hlt:=n.lt
 have hpl:∀l b,m l=some b->PL T L l b:=λl b h=>by
  rcases hm l b h with⟨q,h1,h2,h3,h4⟩|h
  ·have hq:q<ops.length:=by omega
   refine .inl ⟨q,hq,h2,?_,by rw[he];exact h3,h4⟩
   have:T.k q=1\/T.k q≠1:=by omega
   rcases this with g|g
   ·exact g
   ·rw[T.SG hq g]at h4;cases h4
  ·exact .inr (by rw[he];exact h)
 have hsc:∀l b,m l=some b->∃m' q,HR m' (r.cut q) B W/\m' l=some b/\q<=T.nx i:=λl b h=>by
  rcases hm l b h with⟨q,h1,h2,h3,h4⟩|h'
  ·have hq:q<ops.length:=by omega
   have g:T.k q=1:=by
    have:T.k q=1\/T.k q≠1:=by omega
    rcases this with g|g
    ·exact g
    ·rw[T.SG hq g]at h4;cases h4
   exact⟨_,_,(j.part q hq h2 g (by rw[he];exact h3)).1,h4,T.ni (by omega) (by omega)⟩
  ·exact⟨_,_,j.base,by rw[he];exact h',by rw[he];exact T.ni (T.Ia _ _) (by omega)⟩
 have hle:∀q,q<=T.nx i->(r.cut q).le (r.cut (T.nx i)):=λq hq=>(Ren.le.refl r).cut hq
 refine⟨hpl,λl b hb=>?_,λl b hb ho=>?_,λl b hb ho=>?_,λl b l' b' h1 o1 h2 o2 e=>j.inj l b l' b' (hpl l b h1) o1 (hpl l' b' h2) o2 e,j.base.nb,j.base.z⟩
 ·obtain⟨m',q,h1,h2,h3⟩:=hsc l b hb
  exact(h1.mono (hle q h3)).dom l b h2
 ·obtain⟨m',q,h1,h2,h3⟩:=hsc l b hb
  exact(h1.mono (hle q h3)).own l b h2 ho
 ·obtain⟨m',q,h1,h2,h3⟩:=hsc l b hb
  exact(h1.mono (hle q h3)).ro l b h2 ho
theorem a0P {m:Nat->Option Blk}{r:Ren}{B:Nat}{w:World}(h:HR m r B w){l:Nat}{b:Blk}(hb:m l=some b)(ho:b.own=true):r.blk l<w.heap.size:=by
 obtain⟨_,_,C',T',fz',h3,_⟩:=h.own l b hb ho
 exact(aeN.1 h3).1
theorem J.a9k (j:J T r0 B a0 w0 L r a W){l:Nat}{b:Blk}(h:PL T L l b)(ho:b.own=true):r.blk l<W.heap.size:=by
 rcases h with⟨q,h1,h2,h3,h4,h5⟩|h
 ·exact a0P (j.part q h1 h2 h3 h4).1 h5 ho
 ·exact a0P j.base h ho
theorem J.quiet (j:J T r0 B a0 w0 L r a W){i:Nat}{o:Oper}(n:Next T L i o)(hk:T.k i=1)(hD:T.D i=a0l (T.nx i) (T.H i).m)(hnx:T.nx (i+1)=(T.H i).next){h:Heap}(hnext:h.next=T.nx i)
  {u:Value} {W':World} (hi:Inv h (r.cut (T.nx i)) B W) (hp:Post B (T.nx i) h (r.cut (T.nx i)) W (T.v i) (T.H i) u W'):∃r',J T r0 B a0 w0 (put L i) r' (a.put o.dst u) W':=by
 obtain⟨r1,i1,hv,ad⟩:=hp
 have hlt:=n.lt
 have he:=j.epoch n (by omega)
 have hep:T.ep (put L i) ops.length=T.ep L ops.length:=T.yx λp _ h=>by
  by_cases e:p=i
  ·subst e;omega
  ·simp[put,e]
 have hEi:T.ep L ops.length<=i:=by rw[he];exact T.Ia _ _
 have hnn:T.nx i<=T.nx (i+1):=T.ni (by omega) (by omega)
 let R:Ren:=⟨λl=>r.ok l\/(T.nx i<=l/\r1.ok l),λl=>if T.nx i<=l/\l<T.nx (i+1)then r1.blk l else r.blk l,λl=>if T.nx i<=l/\l<T.nx (i+1)then r1.off l else r.off l,λl=>if T.nx i<=l/\l<T.nx (i+1)then r1.cap l else r.cap l⟩
 have hout:∀l,r.ok l->¬(T.nx i<=l/\l<T.nx (i+1)):=λl hl ⟨g1,g2⟩=>by
  rcases j.okk l hl with h|⟨q,h1,h2,h3,h4,h5,h6⟩
  ·have:=T.ni hEi (by omega);omega
  ·have:q=i:=a2r h1 hlt h5 h6 g1 g2
   subst this
   rw[n.no]at h2;cases h2
 have hR:r.le R:=⟨λl hl=>.inl hl,λl hl=>afc (hout l hl),λl hl=>afc (hout l hl),λl hl=>afc (hout l hl)⟩
 have hlow:∀l,l<T.nx i->¬(T.nx i<=l/\l<T.nx (i+1)):=λl hl ⟨g,_⟩=>by omega
 have hR1:r1.le (R.cut (T.nx (i+1))):=by
  have key:∀l,r1.ok l->l<T.nx (i+1)/\((r.ok l/\l<T.nx i)\/T.nx i<=l):=λl hl=>by
   refine⟨by rw[hnx];exact i1.n l hl,?_⟩
   rcases ad.okn l hl with g|g
   ·exact .inl g
   ·exact .inr (by rw[hnext]at g;exact g)
  refine⟨λl hl=>?_,λl hl=>?_,λl hl=>?_,λl hl=>?_⟩
  ·obtain⟨g1,g2⟩:=key l hl
   refine⟨?_,g1⟩
   rcases g2 with g2|g2
   ·exact .inl g2.1
   ·exact .inr ⟨g2,hl⟩
  ·obtain⟨g1,g2⟩:=key l hl
   show(if T.nx i<=l/\l<T.nx (i+1)then r1.blk l else r.blk l)=_
   rcases g2 with g2|g2
   ·rw[afc (hlow l g2.2)];exact(ad.le.blk l g2).symm
   ·rw[afm ⟨g2,g1⟩]
  ·obtain⟨g1,g2⟩:=key l hl
   show(if T.nx i<=l/\l<T.nx (i+1)then r1.off l else r.off l)=_
   rcases g2 with g2|g2
   ·rw[afc (hlow l g2.2)];exact(ad.le.off l g2).symm
   ·rw[afm ⟨g2,g1⟩]
  ·obtain⟨g1,g2⟩:=key l hl
   show(if T.nx i<=l/\l<T.nx (i+1)then r1.cap l else r.cap l)=_
   rcases g2 with g2|g2
   ·rw[afc (hlow l g2.2)];exact(ad.le.cap l g2).symm
   ·rw[afm ⟨g2,g1⟩]
 have hW:∀b,b<W.heap.size->W'.heap[b]? =W.heap[b]? :=λb hb=>ad.frame b hb λl k hl _ hfl=>by
  have:=(hi.hr.dom l k hl).2;omega
 have hB':B<=W'.heap.size:=afv j.b ad.size
 have hDi:∀l b,Hp.get (T.D i) l=some b->(T.H i).get l=some b/\T.nx i<=l/\l<T.nx (i+1):=λl b h=>by
  rw[hD]at h
  obtain⟨g1,g2⟩:=Dn _ _ h
  exact⟨g1,g2,by rw[hnx];exact i1.n l (i1.hr.dom l b g1)⟩
 have hpart:HR (Hp.get (T.D i)) (R.cut (T.nx (i+1))) B W':=(i1.hr.sub λl b h=>(hDi l b h).1).mono hR1
 have hpl:∀l b,PL T (put L i) l b->(Hp.get (T.D i) l=some b)\/PL T L l b:=λl b h=>by
  rcases h with⟨q,h1,h2,h3,h4,h5⟩|h
  ·by_cases e:q=i
   ·subst e;exact .inl h5
   ·exact .inr (.inl ⟨q,h1,by simpa[put,e]using h2,h3,by rw[hep]at h4;exact h4,h5⟩)
  ·rw[hep]at h;exact .inr (.inr h)
 have hplok:∀l b,PL T L l b->r.ok l:=λl b h=>by
  rcases h with⟨q,h1,h2,h3,h4,h5⟩|h
  ·exact((j.part q h1 h2 h3 h4).1.dom l b h5).1
  ·exact(j.base.dom l b h).1
 have hnew:∀l b,Hp.get (T.D i) l=some b->b.own=true/\W.heap.size<=R.blk l:=λl b h=>by
  obtain⟨g1,g2,g3⟩:=hDi l b h
  obtain⟨f1,f2⟩:=ad.fresh l b (by rw[hnext];exact g2) g1
  refine⟨f1,?_⟩
  show _<=(if T.nx i<=l/\l<T.nx (i+1)then r1.blk l else r.blk l)
  rw[afm ⟨g2,g3⟩]
  rcases f2 with f2|⟨l0,b0,e1,_,e3,_⟩
  ·exact f2
  ·have:=(hi.hr.dom l0 b0 e1).2;omega
 refine⟨R,j.dc' n,?_,?_,λt v q h=>?_,hB',?_,λq h1 h2 h3 h4=>?_,λl b l' b' h1 o1 h2 o2 e=>?_,λl hl=>?_,j.le.trans hR,λl hl=>?_,ad.os.trans j.os,ad.tape.trans j.tape,ad.output.trans j.output,afv j.size ad.size,
  λb hb hno=>(hW b (afe hb j.size)).trans (j.frame b hb hno),λl h1 h2=>?_,λl b' h1 h2=>?_,λl b' h1 h2=>?_⟩
 ·rw[<-j.len];cases o.dst<;>simp[Act.put]
 ·rw[<-j.defers];cases o.dst<;>rfl
 ·rw[T.Ho n.lt n.op n.no j.dc t]at h
  split at h
  ·rename_i hd
   cases h
   refine⟨u,?_,VV.mono hR1 hv⟩
   rw[hd.1]
   simp[Act.put,j.len,hd.2]
  ·rename_i hd
   obtain⟨u',h1,h2⟩:=j.slot t v q h
   refine⟨u',?_,VV.mono (hR.cut (aeM _)) h2⟩
   cases ho:o.dst with
   |none=>exact h1
   |some d=>
    have:¬d=t:=λe=>hd ⟨by rw[ho,e],by have:=(aeN.1 h1).1;rw[j.len]at this;exact this⟩
    simp[Act.put,this,h1]
 ·rw[hep];exact(j.base.keep j.b hW).mono (hR.cut (aeM _))
 ·by_cases e:q=i
  ·subst e
   exact⟨hpart,λl b h=>(hDi l b h).2.1⟩
  ·obtain⟨g1,g2⟩:=j.part q h1 (by simpa[put,e]using h2) h3 (by rw[hep]at h4;exact h4)
   exact⟨(g1.keep j.b hW).mono (hR.cut (aeM _)),g2⟩
 ·rcases hpl l b h1 with g1|g1<;>rcases hpl l' b' h2 with g2|g2
  ·exact hpart.inj l b l' b' g1 o1 g2 o2 e
  ·have f1:=(hnew l b g1).2
   have f2:=j.a9k g2 o2
   rw[e,hR.blk l' (hplok l' b' g2)]at f1
   omega
  ·have f1:=(hnew l' b' g2).2
   have f2:=j.a9k g1 o1
   rw[<-e,hR.blk l (hplok l b g1)]at f1
   omega
  ·rw[hR.blk l (hplok l b g1),hR.blk l' (hplok l' b' g2)]at e
   exact j.inj l b l' b' g1 o1 g2 o2 e
 ·rw[hep]
  rcases hl with hl|⟨g1,g2⟩
  ·rcases j.okk l hl with h|⟨q,h1,h2,h3,h4,h5⟩
   ·exact .inl h
   ·exact .inr ⟨q,h1,by simp[put,h2],h3,h4,h5⟩
  ·exact .inr ⟨i,hlt,by simp[put],hk,hEi,g1,by rw[hnx];exact i1.n l g2⟩
 ·rcases hl with hl|⟨g1,g2⟩
  ·exact j.okn l hl
  ·exact .inr (by have:=T.ni (afb i) (by omega);rw[nx0]at this;omega)
 ·rw[hep];exact j.keep l h1 h2
 ·rw[hep]at h2;exact j.old l b' h1 h2
 ·rcases hpl l b' h2 with g|g
  ·obtain⟨f1,f2⟩:=hnew l b' g
   exact⟨f1,.inl (afv j.size f2)⟩
  ·obtain⟨f1,f2⟩:=j.fresh l b' h1 g
   refine⟨f1,?_⟩
   rw[hR.blk l (hplok l b' g)]
   exact f2
theorem J.write (j:J T r0 B a0 w0 L r a W){i:Nat}{o:Oper}(n:Next T L i o)(hk:T.k i=2)(hst:(T.st (i+1)).hb=(T.H i).m)(hnx:T.nx (i+1)=(T.H i).next){h:Heap}(hnext:h.next=T.nx i)
  (hm:∀l b,h.get l=some b->PL T L l b) (hm':∀l,l<s0.h.next->h.get l=Hp.get (T.st (T.ep L ops.length)).hb l)
  {u:Value} {W':World} (hi:Inv h (r.cut (T.nx i)) B W) (hp:Post B fl h (r.cut (T.nx i)) W (T.v i) (T.H i) u W'):∃r',J T r0 B a0 w0 (put L i) r' (a.put o.dst u) W':=by
 obtain⟨r1,i1,hv,ad⟩:=hp
 have hlt:=n.lt
 have hep:T.ep (put L i) ops.length=i+1:=by
  rw[T.Oe (i:=i+1) (by omega) λp h1 h2 h3=>?_]
  ·unfold Tr.ep
   rw[afm ⟨by simp[put],hk⟩]
  ·have:p≠i:=by omega
   simp only[put,this,agA]
   cases hL:L p with
   |false=>rfl
   |true=>have:=(j.behind n (by omega) h2 hL).1 h3;omega
 have h0i:s0.h.next<=T.nx i:=by have:=T.ni (afb i) (by omega);rwa[nx0]at this
 have hnn:T.nx i<=T.nx (i+1):=T.ni (by omega) (by omega)
 have hok:∀l,r.ok l->l<T.nx i:=λl hl=>by
  rcases j.okk l hl with h|⟨q,h1,h2,h3,h4,h5,h6⟩
  ·have:T.ep L ops.length<=i:=by rw[j.epoch n (by omega)];exact T.Ia _ _
   have:=T.ni this (by omega);omega
  ·rcases ah9 q i with g|g|g
   ·have:=T.ni (show q+1<=i by omega) (by omega);omega
   ·subst g;rw[n.no]at h2;cases h2
   ·have:=(j.behind n g h1 h2).2 hk;omega
 have hR:r.le r1:=⟨λl hl=>ad.le.n l ⟨hl,hok l hl⟩,λl hl=>ad.le.blk l ⟨hl,hok l hl⟩,λl hl=>ad.le.off l ⟨hl,hok l hl⟩,λl hl=>ad.le.cap l ⟨hl,hok l hl⟩⟩
 have hcut:r1.le (r1.cut (T.nx (i+1))):=⟨λl hl=>⟨hl,by rw[hnx];exact i1.n l hl⟩,λ_ _=>rfl,λ_ _=>rfl,λ_ _=>rfl⟩
 have hnone:∀q,q<ops.length->put L i q=true->T.k q=1->i+1<=q->False:=λq h1 h2 h3 h4=>by
  have:q≠i:=by omega
  simp only[put,this,agA]at h2
  have:=(j.behind n (by omega) h1 h2).2 hk;omega
 have hpl:∀l b,PL T (put L i) l b->(T.H i).get l=some b:=λl b h=>by
  rcases h with⟨q,h1,h2,h3,h4,h5⟩|h
  ·rw[hep]at h4;exact(hnone q h1 h2 h3 h4).elim
  ·rw[hep,hst]at h;exact h
 refine⟨r1,j.dc' n,?_,?_,λt v q h=>?_,i1.b,?_,λq h1 h2 h3 h4=>?_,λl b l' b' h1 o1 h2 o2 e=>i1.hr.inj l b l' b' (hpl l b h1) o1 (hpl l' b' h2) o2 e,λl hl=>?_,j.le.trans hR,λl hl=>?_,ad.os.trans j.os,ad.tape.trans j.tape,ad.output.trans j.output,afv j.size ad.size,
  λb hb hno=>?_,λl h1 h2=>?_,λl b' h1 h2=>?_,λl b' h1 h2=>?_⟩
 ·rw[<-j.len];cases o.dst<;>simp[Act.put]
 ·rw[<-j.defers];cases o.dst<;>rfl
 ·rw[T.Ho n.lt n.op n.no j.dc t]at h
  split at h
  ·rename_i hd
   cases h
   refine⟨u,?_,VV.mono hcut hv⟩
   rw[hd.1]
   simp[Act.put,j.len,hd.2]
  ·rename_i hd
   obtain⟨u',h1,h2⟩:=j.slot t v q h
   refine⟨u',?_,VV.mono (hR.cut (aeM _)) h2⟩
   cases ho:o.dst with
   |none=>exact h1
   |some d=>
    have:¬d=t:=λe=>hd ⟨by rw[ho,e],by have:=(aeN.1 h1).1;rw[j.len]at this;exact this⟩
    simp[Act.put,this,h1]
 ·rw[hep,hst];exact i1.hr.mono hcut
 ·rw[hep]at h4;exact(hnone q h1 h2 h3 h4).elim
 ·rw[hep,hnx];exact .inl (i1.n l hl)
 ·rcases ad.okn l hl with g|g
  ·exact j.okn l g.1
  ·exact .inr (by omega)
 ·rw[ad.frame b (afe hb j.size) λl k hl ho hfl he=>?_,j.frame b hb hno]
  have he:r.blk l=b:=he
  by_cases hl0:l<s0.h.next
  ·rw[hm' l hl0]at hl
   obtain⟨c,hc,oc⟩:=j.old l k hl0 hl
   have hr:r.blk l=r0.blk l:=by
    refine j.le.blk l ?_
    rcases j.okn l (j.base.dom l k hl).1 with g|g
    ·exact g
    ·omega
   exact hno l c hc (oc.trans ho) hfl (by rw[<-hr];exact he)
  ·obtain⟨f1,f2⟩:=j.fresh l k (ag2 hl0) (hm l k hl)
   rcases f2 with f2|⟨l0,b0,e1,e2,e3,e4⟩
   ·omega
   ·exact hno l0 b0 e1 e2 e3 (by rw[<-e4];exact he)
 ·rw[hep,hst]
  have:=ad.keep l (by omega) h2
  show(T.H i).get l=_
  rw[this,hm' l h1]
  exact j.keep l h1 h2
 ·rw[hep,hst]at h2
  obtain⟨c,hc,oc⟩:=ad.old l b' (by omega) h2
  rw[hm' l h1]at hc
  obtain⟨d,hd,od⟩:=j.old l c h1 hc
  exact⟨d,hd,od.trans oc⟩
 ·have hg:=hpl l b' h2
  by_cases hl:l<h.next
  ·obtain⟨c,hc,oc⟩:=ad.old l b' hl hg
   obtain⟨f1,f2⟩:=j.fresh l c h1 (hm l c hc)
   refine⟨oc▸f1,?_⟩
   rw[hR.blk l (hi.hr.dom l c hc).1]
   exact f2
  ·obtain⟨f1,f2⟩:=ad.fresh l b' (ag2 hl) hg
   refine⟨f1,?_⟩
   rcases f2 with f2|⟨l0,b0,e1,e2,e3,e4⟩
   ·exact .inl (afv j.size f2)
   ·have e4:r1.blk l=r.blk l0:=e4
    by_cases hl0:l0<s0.h.next
    ·rw[hm' l0 hl0]at e1
     obtain⟨c,hc,oc⟩:=j.old l0 b0 hl0 e1
     refine .inr ⟨l0,c,hc,oc.trans e2,e3,?_⟩
     rw[e4]
     refine j.le.blk l0 ?_
     rcases j.okn l0 (j.base.dom l0 b0 e1).1 with g|g
     ·exact g
     ·omega
    ·obtain⟨f1',f2'⟩:=j.fresh l0 b0 (ag2 hl0) (hm l0 b0 e1)
     rw[e4]
     exact f2'
theorem yC {α β:Type}{R:α->β->Prop}:∀{xs:List α} {ys:List β},xs.length=ys.length->(∀(t:Nat) x y,xs[t]? =some x->ys[t]? =some y->R x y)->au R xs ys
 |[],[],_,_=>trivial
 |[],_::_,h,_=>by simp at h
 |_::_,[],h,_=>by simp at h
 |x::xs,y::ys,h,k=>⟨k 0 x y rfl rfl,yC (by simpa using h) λt a b h1 h2=>k (t+1) a b (by simpa using h1) (by simpa using h2)⟩
theorem rng (N t:Nat):(aik N)[t]? =if t<N then some t else none:=by
 split
 ·exact afH ‹_›
 ·exact afT (by simp;omega)
theorem J.masked (j:J T r0 B a0 w0 L r a W){i:Nat}{o:Oper}(n:Next T L i o):∃fr' a',FR (r.cut (T.nx i)) fr' a'/\(∀t∈nO ops o,nth (T.st i).fr t=nth fr' t)/\(∀t∈nO ops o,a.tmps[t]? =a'.tmps[t]?):=by
 have hlt:=n.lt
 obtain⟨hf1,hf2⟩:=T.frame i (by omega)
 let N:=s0.fr.length
 refine⟨(aik N).map λt=>if t∈nO ops o then(nth (T.st i).fr t).getD undef else undef,{ a with tmps:=((aik N).map λt=>if t∈nO ops o then(a.tmps[t]?).getD Go.undef else Go.undef).toArray },?_,λt ht=>?_,λt ht=>?_⟩
 ·refine yC (by simp) λt x y hx hy=>?_
  simp only[aeT,afV]at hx hy
  obtain⟨t',ht',rfl⟩:=hx
  obtain⟨t'',ht'',rfl⟩:=hy
  rw[ht']at ht''
  cases ht''
  have htt:t'=t/\t<N:=by
   rw[rng]at ht'
   split at ht'
   ·cases ht';exact⟨rfl,‹_›⟩
   ·cases ht'
  obtain⟨rfl,htN⟩:=htt
  by_cases hl:t'∈nO ops o
  ·rw[afm hl,afm hl]
   have hn:∃v,nth (T.st i).fr t'=some v:=by
    rw[aI]
    exact⟨_,aeK (by rw[hf1];exact htN)⟩
   obtain⟨v,hv⟩:=hn
   rw[hv]
   rw[hf2 t',afV]at hv
   obtain⟨⟨v',q⟩,hs,rfl⟩:=hv
   have hq:=T.II (by omega) hs
   rw[<-T.ZN hlt n.op n.no j.dc n.all hl]at hs
   obtain⟨u,hu,hvv⟩:=j.slot t' v' q hs
   rw[hu]
   exact VV.mono ((Ren.le.refl r).cut hq) hvv
  ·rw[afc hl,afc hl]
   exact VS.undef
 ·rw[aI,aI,aeT]
  by_cases hN:t<N
  ·rw[rng,afm hN]
   simp only[agn,afm ht,aI]
   rw[aeK (by rw[hf1];exact hN)]
   rfl
  ·rw[rng,afc hN,afT (by rw[hf1];exact ag2 hN)]
   rfl
 ·simp only[agU,aeT]
  by_cases hN:t<N
  ·rw[rng,afm hN]
   simp only[agn,afm ht]
   rw[afU (by rw[j.len];exact hN)]
   rfl
  ·rw[rng,afc hN,agR (by rw[j.len];exact ag2 hN)]
   rfl
theorem a03 {o:Oper}{a a':Act}(h:∀t∈nO ops o,a.tmps[t]? =a'.tmps[t]?):∀x∈o.op.operands,a.eval x=a'.eval x:=by
 intro x hx
 cases x with
 |tmp t=>
  have:=h t (WQ (by simpa using hx))
  simp only[Act.eval,ag1,this]
 |const v=>rfl
 |global g=>rfl
 |func f=>rfl
theorem NZ {opsA:Array Oper}(hA:opsA.toList=ops){o:Oper}{a a':Act}(h:∀t∈nO ops o,a.tmps[t]? =a'.tmps[t]?):Region.wanted o (yielded opsA a.tmps)=Region.wanted o (yielded opsA a'.tmps):=by
 unfold Region.wanted
 cases hg:o.guard with
 |none=>rfl
 |some g=>
  obtain⟨j,b⟩:=g
  have:yielded opsA a.tmps j=yielded opsA a'.tmps j:=by
   unfold yielded
   cases hj:opsA[j]? with
   |none=>rfl
   |some q=>
    simp only[agF]
    cases hd:q.dst with
    |none=>rfl
    |some d=>
     simp only[agF]
     rw[h d (AL hg (by rw[aI,<-hA,afx];exact hj) hd)]
  simp only[this]
theorem OpR.congr {o:Oper}{a a':Act}{W:World}{K:Value->World->Prop}(hs:∀cs b,o.op≠.select cs b)(h:∀x∈o.op.operands,a.eval x=a'.eval x)(k:OpR P o a' W K):OpR P o a W K:=by
 unfold OpR at *
 rw[execOp_congr o hs h]
 exact k
theorem zL {C:Ctx}{fr:Fr}{h hw:Heap}{fl:Nat}{o:Oper}{w:How}(hh:how C fr h hw fl o.op=w)(hw:w≠.p none):∀cs b,o.op≠.select cs b:=by
 intro cs b e
 rw[e]at hh
 exact hw hh.symm
theorem VS.narrow {r0 r r':Ren}(h0:r0.le r)(h':r'.le r)(hn:∀l,r0.ok l->r'.ok l){x:S}{u v:Value}(k0:VS r0 x u)(k:VS r x v):VS r' x v:=by
 cases x with
 |ptr l o=>
  have g:=hn l k0.1
  exact⟨g,by rw[<-h'.at g];exact k.2⟩
 |px l o n i=>
  have g:=hn l k0.1
  exact⟨g,k.2.1,k.2.2.1,by rw[<-h'.at g];exact k.2.2.2⟩
 |sl l o n z c=>
  cases c with
  |none=>
   have g:=hn l k0.1
   exact⟨g,⟨k.2.1.1,by rw[<-h'.cap l g];exact k.2.1.2⟩,by rw[<-h'.cap l g];exact k.2.2.1,by rw[<-h'.cap l g,<-h'.at g];exact k.2.2.2⟩
  |some c=>
   have g:=hn l k0.1
   exact⟨g,k.2.1,k.2.2.1,by rw[<-h'.at g];exact k.2.2.2⟩
 |fn f cs=>
  refine⟨λp hp=>hn _ (k0.1 p hp),?_⟩
  rw[k.2]
  congr 2
  exact agZ λp hp=>by rw[h'.at (hn _ (k0.1 p hp))]
 |_=>exact k
theorem VSs.narrow {r0 r r':Ren}(h0:r0.le r)(h':r'.le r)(hn:∀l,r0.ok l->r'.ok l):∀{xs:List S} {us vs:List Value},(∀x∈xs,∃u,VS r0 x u)->au (VS r) xs vs->au (VS r') xs vs
 |[],_,[],_,_=>trivial
 |x::xs,us,v::vs,k0,k=>by
  obtain⟨u,hu⟩:=k0 x (afh ..)
  exact⟨VS.narrow h0 h' hn hu k.1,VSs.narrow (us:=us) h0 h' hn (λx hx=>k0 x (afd _ hx)) k.2⟩
 |[],_,_::_,_,h=>h.elim
 |_::_,_,[],_,h=>h.elim
theorem VA.narrow {r0 r r':Ren}(h0:r0.le r)(h':r'.le r)(hn:∀l,r0.ok l->r'.ok l){x:A}{v:Value}(k0:∀s∈x.cells,∃u,VS r0 s u)(k:VA r x v):VA r' x v:=by
 cases x with
 |s x=>
  obtain⟨u,hu⟩:=k0 x (by simp[A.cells])
  exact VS.narrow h0 h' hn hu k
 |g l=>
  obtain⟨vs,e,a⟩:=k
  exact⟨vs,e,VSs.narrow (us:=[]) h0 h' hn k0 a⟩
theorem J.step (hty:eY P C.ty)(hC:tu P C)(i0:Inv s0.h r0 B w0)(hq:∀i l,i<ops.length->T.q i=some l->∀e,e<=ops.length->Hp.get (T.st e).hb l=Hp.get s0.h.m l){opsA:Array Oper}(hA:opsA.toList=ops){Q:Exit->Act->World->Prop}(j:J T r0 B a0 w0 L r a W){i:Nat}{o:Oper}(n:Next T L i o):
  wpOp P opsA Q i (λa' W'=>∃r',J T r0 B a0 w0 (put L i) r' a' W') a W:=by
 obtain⟨fr',a',hfr,hl1,hl2⟩:=j.masked n
 have hlt:=n.lt
 have hs:=T.step i o n.op
 have hev:=a6e (ops:=ops) hl1
 have hae:=a03 (ops:=ops) hl2
 have hwant:Region.wanted o (yielded opsA a.tmps)=gV ops o (T.st i).fr:=by
  have hgo:jC opsA.toList o fr'=true:=by rw[hA,<-Ru hl1];exact hs.guard
  rw[NZ hA hl2,<-LW hfr opsA o hgo,hA]
  exact(Sz hl1).symm
 have hopA:opsA[i]? =some o:=by rw[<-afx,hA];exact n.op
 have hm:T.m i=jH (T.st i).an o:=by simp[Tr.m,n.op]
 unfold wpOp
 rw[hopA]
 simp only[]
 rw[hwant]
 rcases hs.kind with⟨hk,_,_,_,hnx,hc⟩|⟨hk,hD,hhb,hds,hnx,hw,w,hh,hc⟩|⟨hk,hD,hhb,hds,hnx,hw,w,hh,hc⟩
 ·have hnx':T.nx (i+1)=T.nx i:=hnx
  rcases hc with⟨hw,hv⟩|⟨hw,h1,h2,f1,hh⟩|⟨hw,l,hql,t,x,Ty,off,cs,y,hop,hT,hp,hcs,hy,hv⟩
  ·rw[hw]
   simp only[ah4,agA]
   exact⟨r,j.free n hk (by rw[hv];exact VS.undef)⟩
  case inr.inr=>
   rw[hw]
   simp only[agL]
   have mx:x∈o.op.operands:=by rw[hop];simp[Op.operands]
   rw[nC (hev x mx)]at hp
   obtain⟨e1,e2⟩:=rG hfr hp
   have e2':a.eval x=.pointer (some ((r.cut (T.nx (T.ep L ops.length))).at l off)):=(hae x mx).trans e2
   have hbI:Inv ⟨(T.st (T.ep L ops.length)).hb,T.nx (T.ep L ops.length)⟩ (r.cut (T.nx (T.ep L ops.length))) B W:=⟨λl hl=>hl.2,j.b,j.base⟩
   have hread:Heap.read ⟨(T.st (T.ep L ops.length)).hb,T.nx (T.ep L ops.length)⟩ l off Ty.size=some cs:=by
    unfold Heap.read at hcs |-
    show ob (Hp.get (T.st (T.ep L ops.length)).hb l) _=_
    rw[hq i l hlt hql _ (T.Ia _ _)]
    exact hcs
   obtain⟨z,hz,hz'⟩:=Gh (P:=P) hty hbI hT hread hy
   have hcells:∀s∈y.cells,∃u,VS r0 s u:=by
    obtain⟨b,hb,hex⟩:=aj hcs
    obtain⟨_,e4⟩:=ext_eq hex
    intro s hs
    have hyc:y.cells=cs:=by
     unfold Go.Proofs.YtnhnelgkcldkbaaGreatDoor.Am.Ty.mk' at hy
     cases hg:Ty.d.agg<;>rw[hg]at hy<;>simp only[aeW,aeS]at hy
     ·split at hy<;>cases hy
      rfl
     ·cases hy;rfl
    rw[hyc,e4]at hs
    have hs':=agB (afW hs)
    obtain⟨k,hk'⟩:=afD hs'
    obtain⟨u,_,hu⟩:=i0.hr.cell hb (i:=k) (x:=s) (by rw[aI];exact hk')
    exact⟨u,hu⟩
   refine .inl ((OpR.val (P:=P) (o:=o) (a:=a) (w:=W) (w':=W) (K:=λu W'=>u=z/\W'=W) (v:=z) (by simp[execOp,hop,e2',hz]) ⟨rfl,rfl⟩).wp λu W' ⟨h1,h2⟩=>?_)
   subst h1;subst h2
   have h0n:s0.h.next<=T.nx i:=by have:=T.ni (afb i) (afk hlt);rw[nx0]at this;exact this
   refine⟨r,j.free n hk ?_⟩
   rw[hnx',hv]
   exact VA.narrow (r:=r) j.le (r.U3 _) (λl hl=>⟨j.le.n l hl,afe (i0.n l hl) h0n⟩) hcells (VA.mono (r.U3 _) hz')
  ·rw[hw]
   simp only[agL]
   have hsel:=zL hh (by simp)
   rw[Eh hev]at hh
   obtain⟨u,hu,hvv⟩:=Rl (w:=W) hty hC.tb j.base.z hfr hh
   refine .inl ((OpR.congr hsel hae (OpR.val (K:=λz W'=>z=u/\W'=W) hu ⟨rfl,rfl⟩)).wp λz W' ⟨h1,h2⟩=>?_)
   subst h1;subst h2
   exact⟨r,j.free n hk (by rw[hnx'];exact hvv)⟩
 ·rw[hw]
  simp only[agL]
  obtain⟨hdl,hdg⟩:=T.ds i (by omega)
  have hgiven:=j.given n (by omega) (m:=Heap.get ⟨sD (T.m i) 0 (T.st i).ds++(T.st i).hb,T.nx i⟩) λl b hb=>by
   have hb:Hp.get (sD (T.m i) 0 (T.st i).ds++(T.st i).hb) l=some b:=hb
   rw[Hp.get_append]at hb
   cases hq:Hp.get (sD (T.m i) 0 (T.st i).ds) l with
   |none=>rw[hq]at hb;rw[T.hb i (by omega)]at hb;exact .inr hb
   |some x=>
    rw[hq]at hb
    cases hb
    obtain⟨q,d,g1,g2,g3⟩:=Pv _ _ _ hq
    have hqi:q<i:=by have:=(aeU.1 g1).1;omega
    rw[hdg q hqi]at g1
    rw[afK]at g2
    cases g1
    split at g3
    ·exact .inl ⟨q,hqi,n.all q g2,‹_›,g3⟩
    ·cases g3
  have hinv:Inv ⟨sD (T.m i) 0 (T.st i).ds++(T.st i).hb,T.nx i⟩ (r.cut (T.nx i)) B W:=⟨λl hl=>hl.2,j.b,hgiven.2⟩
  have hsel:=zL hh (by rcases hc with h|⟨_,h⟩|⟨_,_,h,_⟩<;>rw[h]<;>simp)
  have hmem:=hh
  rw[Eh hev,<-hm]at hh
  have hop:OpR P o a' W (Post B (T.nx i) ⟨sD (T.m i) 0 (T.st i).ds++(T.st i).hb,T.nx i⟩ (r.cut (T.nx i)) W (T.v i) (T.H i)):=by
   rcases hc with h|⟨x,h⟩|⟨f,as,h,hcall⟩
   ·rw[h]at hh;exact Pz hty hinv hfr hh _
   ·rw[h]at hh;exact Ja hty hinv hfr hh _
   ·rw[h]at hh hmem
    obtain⟨c1,c2⟩:=Ll hmem
    rw[CZ (hev f c1) (λx hx=>hev x (c2 x hx)),<-hm]at hcall
    exact Bq hC hinv hfr hh hcall
  refine .inl ((OpR.congr hsel hae hop).wp λu W' hp=>?_)
  exact j.quiet n hk hD hnx rfl hinv hp
 ·rw[hw]
  simp only[agL]
  obtain⟨hdl,hdg⟩:=T.ds i (by omega)
  have he:=j.epoch n (by omega)
  have hfl:∀l b,Hp.get (T.st i).ds.flatten l=some b->∃q,q<i/\L q=true/\T.ep every i<=q/\Hp.get (T.D q) l=some b:=λl b hq=>by
   obtain⟨q,d,g1,g3⟩:=oW _ hq
   have hqi:q<i:=by have:=(aeU.1 g1).1;omega
   rw[hdg q hqi]at g1
   cases g1
   split at g3
   ·refine⟨q,hqi,?_,‹_›,g3⟩
    rcases J.ahead n hqi with g|g
    ·exact g
    ·have hq0:=g.1 hk
     rw[T.SG (by omega) (by omega)]at g3
     cases g3
   ·cases g3
  have hgiven:=j.given n (by omega) (m:=Heap.get ⟨(T.st i).ds.flatten++(T.st i).hb,T.nx i⟩) λl b hb=>by
   have hb:Hp.get ((T.st i).ds.flatten++(T.st i).hb) l=some b:=hb
   rw[Hp.get_append]at hb
   cases hq:Hp.get (T.st i).ds.flatten l with
   |none=>rw[hq]at hb;rw[T.hb i (by omega)]at hb;exact .inr hb
   |some x=>
    rw[hq]at hb
    cases hb
    exact .inl (hfl l b hq)
  have hinv:Inv ⟨(T.st i).ds.flatten++(T.st i).hb,T.nx i⟩ (r.cut (T.nx i)) B W:=⟨λl hl=>hl.2,j.b,hgiven.2⟩
  have hsel:=zL hh (by rcases hc with h|⟨_,h⟩|⟨_,_,h,_⟩<;>rw[h]<;>simp)
  have hmem:=hh
  rw[Eh hev,<-hm]at hh
  have hop:OpR P o a' W (Post B fl ⟨(T.st i).ds.flatten++(T.st i).hb,T.nx i⟩ (r.cut (T.nx i)) W (T.v i) (T.H i)):=by
   rcases hc with h|⟨x,h⟩|⟨f,as,h,hcall⟩
   ·rw[h]at hh;exact QO hty hinv hfr hh
   ·rw[h]at hh;exact IQ hty hinv hfr hh
   ·rw[h]at hh hmem
    obtain⟨c1,c2⟩:=Ll hmem
    rw[CZ (hev f c1) (λx hx=>hev x (c2 x hx))]at hcall
    exact Bq hC hinv hfr hh hcall
  refine .inl ((OpR.congr hsel hae hop).wp λu W' hp=>?_)
  refine j.write n hk hhb hnx rfl hgiven.1 (λl hl=>?_) hinv hp
  show Hp.get ((T.st i).ds.flatten++(T.st i).hb) l=_
  rw[Hp.get_append]
  cases hq:Hp.get (T.st i).ds.flatten l with
  |none=>rw[T.hb i (by omega),he]
  |some x=>
   obtain⟨q,hqi,g1,g2,g3⟩:=hfl l x hq
   have hq1:T.k q=1:=by
    have:T.k q=1\/T.k q≠1:=by omega
    rcases this with g|g
    ·exact g
    ·rw[T.SG (by omega) g]at g3;cases g3
   have:=(j.part q (by omega) g1 hq1 (by rw[he];exact g2)).2 l x g3
   have h0:=T.ni (afb q) (by omega)
   rw[nx0]at h0
   omega
theorem Uy {listed:Array Bool}{i:Nat}(hi:i<listed.size):(λj=>(listed.setIfInBounds i true).getD j false)=put (λj=>listed.getD j false) i:=by
 funext j
 simp only[put,ag1,Array.getElem?_setIfInBounds]
 by_cases e:i=j
 ·subst e;simp[hi]
 ·have:¬j=i:=λh=>e h.symm
  simp[e,this]
theorem count_set (l:List Bool)(i:Nat)(h:l[i]? =some false):(l.set i true).count false+1=l.count false:=by
 induction l generalizing i with
 |nil=>simp at h
 |cons x l ih=>
  cases i with
  |zero=>simp at h;subst h;simp
  |succ i=>
   have:=ih i (by simpa using h)
   simp only[aeO,List.count_cons]
   omega
theorem a0o (hty:eY P C.ty)(hC:tu P C)(i0:Inv s0.h r0 B w0)(hfq:∀i l,i<ops.length->T.q i=some l->∀e,e<=ops.length->Hp.get (T.st e).hb l=Hp.get s0.h.m l){opsA:Array Oper}(hA:opsA.toList=ops){Q:Exit->Act->World->Prop}
  (hq:∀r' a' W',J T r0 B a0 w0 every r' a' W'->Q .normal a' W'):∀(fuel:Nat) (listed:Array Bool) (r:Ren) (a:Act) (W:World),listed.size=ops.length->listed.toList.count false<=fuel->J T r0 B a0 w0 (λj=>listed.getD j false) r a W->
  wpAny P .any opsA Q fuel listed a W:=by
 have hsz:opsA.size=ops.length:=by rw[<-hA];simp
 -- when nothing is left to do, all is done
 have hend:∀(listed:Array Bool) (r:Ren) (a:Act) (W:World),listed.size=ops.length->(∀i,i<ops.length->listed[i]? =some true)->J T r0 B a0 w0 (λj=>listed.getD j false) r a W->Q .normal a W:=by
  intro listed r a W hl hall j
  have hL:∀i,i<ops.length->listed.getD i false=true:=λi hi=>by simp[ag1,hall i hi]
  have hep:T.ep (λj=>listed.getD j false) ops.length=T.ep every ops.length:=T.yx λp hp _=>hL p hp
  have hslot:∀n,n<=ops.length->∀t,T.slot (λj=>listed.getD j false) n t=T.slot every n t:=by
   intro n
   induction n with
   |zero=>intro _ t;rfl
   |succ n ih=>
    intro hn t
    unfold Tr.slot
    rw[ih (by omega) t]
    simp only[hL n (by omega),every]
  have hpl:∀l b,PL T every l b->PL T (λj=>listed.getD j false) l b:=λl b h=>by
   rcases h with⟨q,h1,h2,h3,h4,h5⟩|h
   ·exact .inl ⟨q,h1,hL q h1,h3,by rw[hep];exact h4,h5⟩
   ·exact .inr (by rw[hep];exact h)
  refine hq r a W ⟨λp q _ hp hm=>rfl,j.len,j.defers,λt v q h=>j.slot t v q (by rw[hslot _ (aeM _)];exact h),j.b,by rw[<-hep];exact j.base,λq h1 _ h3 h4=>j.part q h1 (hL q h1) h3 (by rw[hep];exact h4),
   λl b l' b' h1 o1 h2 o2 e=>j.inj l b l' b' (hpl l b h1) o1 (hpl l' b' h2) o2 e,λl hl=>?_,j.le,j.okn,j.os,j.tape,j.output,j.size,j.frame,by rw[<-hep];exact j.keep,by rw[<-hep];exact j.old,λl b' h1 h2=>j.fresh l b' h1 (hpl l b' h2)⟩
  rcases j.okk l hl with h|⟨q,h1,_,h3,h4,h5⟩
  ·rw[<-hep];exact .inl h
  ·exact .inr ⟨q,h1,rfl,h3,by rw[<-hep];exact h4,h5⟩
 have hnext:∀(listed:Array Bool),listed.size=ops.length->∀i,i∈Region.ready .any opsA listed->(∀p q,listed.getD p false=true->p<ops.length->aia (T.m p) q=true->listed.getD q false=true)->
   ∃o,Next T (λj=>listed.getD j false) i o/\listed[i]? =some false:=by
  intro listed hl i hi hdc
  obtain⟨h0,o,ho,hed⟩:=mem_ready.1 hi
  have hop:ops[i]? =some o:=by rw[<-hA,afx];exact ho
  have hlt:i<ops.length:=(aeU.1 hop).1
  have hlf:listed[i]? =some false:=by
   have:i<listed.size:=by omega
   simp[ag1,afU this]at h0
   rw[afU this,h0]
  refine⟨o,⟨hlt,hop,by simp[ag1,hlf],λq hq=>?_⟩,hlf⟩
  have hm:T.m i=jH (T.st i).an o:=by simp[Tr.m,hop]
  rw[hm,Yf]at hq
  obtain⟨e,he,hb,hq⟩:=hq
  have hed':=hed e (by simpa using he) hb
  rcases hq with rfl|hq
  ·exact hed'
  ·have hsi:=(T.step i o hop).edges
   have hei:e.on<i:=by
    unfold oJ at hsi
    have:=aeV.1 hsi e he
    rw[hb]at this
    have h2:ail e.on (T.st i).os.length=true:=by simpa using this
    rw[T.os i (by omega)]at h2
    have h3:e.on+1<=(ops.take i).length:=aff h2
    rw[afu]at h3
    omega
   rw[aI,(T.an i (by omega)).2 e.on hei]at hq
   exact hdc e.on q hed' (by omega) hq
 intro fuel
 induction fuel with
 |zero=>
  intro listed r a W hl hc j
  have hall:∀i,i<ops.length->listed[i]? =some true:=λi hi=>by
   have hi':i<listed.size:=by omega
   rw[afU hi']
   cases hb:listed[i]with
   |true=>rfl
   |false=>
    have h1:listed.toList[i]? =some false:=by rw[afx,afU hi',hb]
    have:=count_set listed.toList i h1
    omega
  refine⟨?_,hend listed r a W hl hall j⟩
  cases hr:Region.ready .any opsA listed with
  |nil=>rfl
  |cons i rs=>
   obtain⟨o,n,hlf⟩:=hnext listed hl i (by rw[hr];simp) j.dc
   rw[hall i n.lt]at hlf
   cases hlf
 |succ fuel ih=>
  intro listed r a W hl hc j
  refine⟨λhr=>?_,λi hi=>?_⟩
  · -- the first one that is not done may come
   have hall:∀k i,i<k->i<ops.length->listed[i]? =some true:=by
    intro k
    induction k with
    |zero=>intro i h;omega
    |succ k ihk=>
     intro i hik hi
     by_cases e:i<k
     ·exact ihk i e hi
     ·have hi':i<listed.size:=by omega
      rw[afU hi']
      cases hb:listed[i]with
      |true=>rfl
      |false=>
       exfalso
       have ho:ops[i]? =some ops[i]:=aeK hi
       have:i∈Region.ready .any opsA listed:=mem_ready.2 ⟨by simp[ag1,afU hi',hb],ops[i],by rw[<-afx,hA];exact ho,λe he hbe=>by
        have hsi:=(T.step i ops[i] ho).edges
        unfold oJ at hsi
        have:=aeV.1 hsi e (by simpa using he)
        rw[hbe]at this
        have h2:ail e.on (T.st i).os.length=true:=by simpa using this
        rw[T.os i (by omega)]at h2
        have h3:e.on+1<=(ops.take i).length:=aff h2
        rw[afu]at h3
        simp[ag1,ihk e.on (by omega) (by omega)]⟩
       rw[hr]at this
       cases this
   exact hend listed r a W hl (λi hi=>hall (i+1) i (by omega) hi) j
  ·obtain⟨o,n,hlf⟩:=hnext listed hl i hi j.dc
   refine wpOp_mono (λa' W' ⟨r',j'⟩=>?_) (j.step hty hC i0 hfq hA (Q:=Q) n)
   have hi':i<listed.size:=by have:=n.lt;omega
   refine ih _ r' a' W' (by simpa using hl) ?_ (by rw[Uy hi'];exact j')
   have:=count_set listed.toList i (by rw[afx];exact hlf)
   rw[agy]
   omega
theorem wR (hty:eY P C.ty)(hC:tu P C)(hm:P.follows .mixedOrders=true){opsA:Array Oper}{id:Nat}{Q:Exit->Act->World->Prop}{B:Nat}{s:St}{r:Ren}{a:Act}{w:World}(hr:Rel s r B a w){σ:RS}
  (T:Tr C fl opsA.toList s.fr s.h) (hT:T.st opsA.toList.length=σ) (hfq:∀i l,i<opsA.toList.length->T.q i=some l->∀e,e<=opsA.toList.length->Hp.get (T.st e).hb l=Hp.get s.h.m l)
  (hq:∀r' a' w',Rel ⟨σ.fr,⟨σ.ds.flatten++σ.hb,σ.nx⟩⟩ r' B a' w'->Adv fl s.h r w ⟨σ.ds.flatten++σ.hb,σ.nx⟩ r' w'->a'.defers=a.defers->Q .normal a' w'):(Code.region id opsA true).wp P Q a w:=by
 refine ai4 hm (a0o (T:=T) (r0:=r) (B:=B) (a0:=a) (w0:=w) hty hC hr.i hfq rfl (λr' a' W' j=>?_) _ _ r a w.drew (by simp) (by simp) ?_)
 · -- all is done: the machine's end
  have hn:opsA.toList.length<=opsA.toList.length:=aeM _
  obtain⟨hdl,hdg⟩:=T.ds _ hn
  obtain⟨hf1,hf2⟩:=T.frame _ hn
  rw[hT]at hdl hdg hf1 hf2
  have hhb:σ.hb=(T.st (T.ep every opsA.toList.length)).hb:=by rw[<-hT];exact T.hb _ hn
  have hnx:T.nx opsA.toList.length=σ.nx:=by show(T.st opsA.toList.length).nx=σ.nx;rw[hT]
  have hpart:∀q d l b,σ.ds[q]? =some d->Hp.get d l=some b->T.ep every opsA.toList.length<=q/\q<opsA.toList.length/\d=T.D q/\T.k q=1/\T.nx q<=l/\l<T.nx (q+1):=λq d l b h1 h2=>by
   have hql:q<opsA.toList.length:=by have:=(aeU.1 h1).1;omega
   rw[hdg q hql]at h1
   cases h1
   split at h2
   ·rename_i hep
    have hk1:T.k q=1:=by
     have:T.k q=1\/T.k q≠1:=by omega
     rcases this with g|g
     ·exact g
     ·rw[T.SG hql g]at h2;cases h2
    obtain⟨p1,p2⟩:=j.part q hql rfl hk1 hep
    exact⟨hep,hql,by rw[afm hep],hk1,p2 l b h2,(p1.dom l b h2).2⟩
   ·cases h2
  have hget:∀l b,Heap.get ⟨σ.ds.flatten++σ.hb,σ.nx⟩ l=some b->PL T every l b:=λl b h=>by
   have h:Hp.get (σ.ds.flatten++σ.hb) l=some b:=h
   rw[Hp.get_append]at h
   cases hq:Hp.get σ.ds.flatten l with
   |none=>rw[hq]at h;exact .inr (by rw[<-hhb];exact h)
   |some x=>
    rw[hq]at h
    cases h
    obtain⟨q,d,g1,g2⟩:=oW _ hq
    obtain⟨p1,p2,rfl,p4,_⟩:=hpart q d l b g1 g2
    exact .inl ⟨q,p2,rfl,p4,p1,g2⟩
  have hlow:∀l,l<s.h.next->Heap.get ⟨σ.ds.flatten++σ.hb,σ.nx⟩ l=Hp.get (T.st (T.ep every opsA.toList.length)).hb l:=λl hl=>by
   show Hp.get (σ.ds.flatten++σ.hb) l=_
   rw[Hp.get_append]
   cases hq:Hp.get σ.ds.flatten l with
   |none=>rw[hhb]
   |some x=>
    obtain⟨q,d,g1,g2⟩:=oW _ hq
    obtain⟨p1,p2,_,_,p5,_⟩:=hpart q d l x g1 g2
    have:=T.ni (afb q) (by omega)
    rw[nx0]at this
    omega
  have hscope:∀l,r'.ok l->l<σ.nx:=λl hl=>by
   rcases j.okk l hl with h|⟨q,h1,_,_,_,h6⟩
   ·have:=T.ni (T.Ia every opsA.toList.length) hn;omega
   ·have:=T.ni (show q+1<=opsA.toList.length by omega) hn;omega
  have hcl:∀q,(r'.cut q).le r':=λq=>r'.U3 q
  have hHR:HR (Heap.get ⟨σ.ds.flatten++σ.hb,σ.nx⟩) r' B W':=by
   have hsc:∀l b,PL T every l b->∃m' q,HR m' (r'.cut q) B W'/\m' l=some b:=λl b h=>by
    rcases h with⟨q,h1,h2,h3,h4,h5⟩|h
    ·exact⟨_,_,(j.part q h1 h2 h3 h4).1,h5⟩
    ·exact⟨_,_,j.base,h⟩
   refine⟨λl b hb=>?_,λl b hb ho=>?_,λl b hb ho=>?_,λl b l' b' h1 o1 h2 o2 e=>j.inj l b l' b' (hget l b h1) o1 (hget l' b' h2) o2 e,j.base.nb,j.base.z⟩
   ·obtain⟨m',q,h1,h2⟩:=hsc l b (hget l b hb)
    exact(h1.mono (hcl q)).dom l b h2
   ·obtain⟨m',q,h1,h2⟩:=hsc l b (hget l b hb)
    exact(h1.mono (hcl q)).own l b h2 ho
   ·obtain⟨m',q,h1,h2⟩:=hsc l b (hget l b hb)
    exact(h1.mono (hcl q)).ro l b h2 ho
  have h0:s.h.next<=σ.nx:=by have:=T.ni (afb opsA.toList.length) hn;rw[nx0,hnx]at this;exact this
  refine hq r' a' W' ⟨?_,hscope,j.b,hHR⟩ ⟨j.le,h0,j.okn,j.os,j.tape,j.output,j.size,j.frame,λl h1 h2=>?_,λl b' h1 h2=>?_,λl b' h1 h2=>j.fresh l b' h1 (hget l b' h2)⟩ j.defers
  ·refine yC (by have:=j.len;simp only[Array.length_toList];omega) λt x y hx hy=>?_
   rw[<-aI,hf2 t,afV]at hx
   obtain⟨⟨v',q⟩,hsl,rfl⟩:=hx
   obtain⟨u,hu,hv⟩:=j.slot t v' q hsl
   rw[afx,hu]at hy
   cases hy
   exact VV.mono (hcl q) hv
  ·rw[hlow l h1];exact j.keep l h1 h2
  ·rw[hlow l h1]at h2;exact j.old l b' h1 h2
 ·have hj:=J.start (T:=T) (r0:=r) (a0:=a) hr.i hr.f
  have:(λj=>(aii opsA.size false).getD j false)=λ_=>false:=by
   funext j
   simp only[ag1,Array.getElem?_replicate]
   split<;>rfl
  rw[this]
  exact hj
theorem JW (hty:eY P C.ty)(hC:tu P C)(hm:P.follows .mixedOrders=true){opsA:Array Oper}{id:Nat}{Q:Exit->Act->World->Prop}{B:Nat}{s s':St}{r:Ren}{a:Act}{w:World}(hr:Rel s r B a w)
  (hs:XW C fl opsA.toList s=some s') (hq:∀r' a' w',Rel s' r' B a' w'->Adv fl s.h r w s'.h r' w'->a'.defers=a.defers->Q .normal a' w'):(Code.region id opsA true).wp P Q a w:=by
 obtain⟨σ,hσ,hs⟩:=aj hs
 cases hs
 obtain⟨T,hT,hn⟩:=Tr.make hσ
 exact wR hty hC hm hr T hT (λi l _ h=>by rw[hn]at h;cases h) hq
theorem Ui (l:List Nat)(k:Nat):RH (l++[k])=k:=by simp[RH]
theorem zA {fr:Fr}{h0:Heap}{o:Oper}{l:Nat}{v:V}(h:Dj C fr h0 o=some (l,v)):Fre C fr h0 o l v:=by
 unfold Dj at h
 split at h
 ·rename_i t x hop
  obtain⟨Ty,hT,h⟩:=aj h
  obtain⟨p,hp,h⟩:=aj h
  obtain⟨cs,hcs,h⟩:=aj h
  obtain⟨y,hy,h⟩:=aj h
  cases h
  exact⟨t,x,Ty,p.2,cs,y,hop,hT,hp,hcs,hy,rfl⟩
 ·cases h
theorem a01 {fr:Fr}{h hw:Heap}{o:Oper}{v:V}{h':Heap}{t:Nat}(ht:Fa fr o=some t)(hh:how C fr h hw fl o.op=.w (some (v,h'))\/∃r,how C fr h hw fl o.op=.qw r (some (v,h'))){l:Nat}(hl:l≠t)(hln:l<hw.next):Hp.get h'.m l=Hp.get hw.m l:=by
 unfold Fa at ht
 split at ht
 ·rename_i ty x y hop
  obtain⟨s,hs,ht⟩:=aj ht
  rcases hh with hh|⟨_,hh⟩
  ·rw[hop]at hh
   simp only[how,How.w.injEq]at hh
   rcases Dh hh with hh|hh
   ·obtain⟨Ty,hT,hh⟩:=aj hh
    obtain⟨p,hp,hh⟩:=aj hh
    obtain⟨v',hv',hh⟩:=aj hh
    cases hc:(v'.cells.length==Ty.size&&aib fl p.1)<;>rw[hc]at hh<;>simp only[aeW,aeS]at hh
    ·cases hh
    obtain⟨b,hb,hh⟩:=aj hh
    cases hbo:b.own<;>rw[hbo]at hh<;>simp only[aeW,aeS]at hh
    ·cases hh
    obtain⟨cs,hcs,hh⟩:=aj hh
    cases hh
    obtain⟨s',hs',hp'⟩:=aj hp
    rw[hs]at hs'
    cases hs'
    have e:p.1=t:=by
     unfold S.Rz at hp'
     split at hp'<;>cases hp'
     cases ht
     rfl
    rw[Hp.D6 _ _ _ _ hb,afc (by rw[e];exact hl)]
   ·obtain⟨s',hs',hh⟩:=aj hh
    obtain⟨v',hv',hh⟩:=aj hh
    rw[hs]at hs'
    cases hs'
    unfold Oa at hh
    split at hh
    ·rename_i l' o' n' i' _
     have ht:l'=t:=afE ht
     subst ht
     obtain⟨Ty,hT,hh⟩:=aj hh
     cases hc:(Ty.size==1&&aib fl l')<;>rw[hc]at hh<;>simp only[aeW,aeS]at hh
     ·cases hh
     obtain⟨b,hb,hh⟩:=aj hh
     cases hbo:b.own<;>rw[hbo]at hh<;>simp only[aeW,aeS]at hh
     ·cases hh
     obtain⟨cs,_,hh⟩:=aj hh
     obtain⟨ds,_,hh⟩:=aj hh
     obtain⟨es,_,hh⟩:=aj hh
     cases hh
     rw[Hp.D6 _ _ _ _ hb,afc hl]
    ·cases hh
  ·rw[hop]at hh;cases hh
 ·rename_i c hop
  split at ht
  ·rename_i s rest hcal hargs
   obtain⟨sv,hsv,ht⟩:=aj ht
   rcases hh with hh|⟨_,hh⟩
   ·rw[hop]at hh
    simp only[how,hcal,lZ,iG]at hh
    cases hh
   ·rw[hop]at hh
    simp only[how,hcal,lZ,iG,How.qw.injEq]at hh
    obtain⟨t1,u,s1,x,E,sv',xv,p,e1,e2,e3,e4,e5,e6,e7,e8,e9⟩:=Aj hh.2
    rw[hargs]at e2
    cases e2
    rw[hsv]at e5
    cases e5
    cases hz:(szS sv==E.size)<;>rw[hz]at e9<;>simp only[aeW,aeS]at e9
    ·cases e9
    unfold appW at e9
    split at e9
    ·rename_i l' o' n' z' c'
     have ht:l'=t:=afE ht
     subst ht
     cases hc:(aib n' 65536&&aib (n'+p.1) c'&&aib fl l')<;>rw[hc]at e9<;>simp only[aeW,aeS]at e9
     ·cases e9
     obtain⟨b,hb,e9⟩:=aj e9
     cases hbo:b.own<;>rw[hbo]at e9<;>simp only[aeW,aeS]at e9
     ·cases e9
     obtain⟨cs,_,e9⟩:=aj e9
     cases e9
     rw[Hp.D6 _ _ _ _ hb,afc hl]
    ·rename_i l' o' n' z'
     have ht:l'=t:=afE ht
     subst ht
     cases hc:(aib n' 65536&&aib fl l'&&o'==0)<;>rw[hc]at e9<;>simp only[aeW,aeS]at e9
     ·cases e9
     obtain⟨b,hb,e9⟩:=aj e9
     cases hbo:(b.own&&aib (n'*z') b.cells.length)<;>rw[hbo]at e9<;>simp only[aeW,aeS]at e9
     ·cases e9
     cases e9
     rw[Hp.gQ]
     have:(hw.next==l)=false:=by
      cases e:(hw.next==l)
      ·rfl
      ·have e':hw.next=l:=by simpa using e
       omega
     rw[this,aeS,Hp.Gg,afc hl]
    ·cases e9
  ·cases ht
 ·cases ht
theorem IK {ops:List Oper}{an:List Nat}{h0:Heap}:∀(l:List Oper) {s out:Fs},a1V C fl ops an h0 l s=some out->
  ∃(st:Nat->RS) (k:Nat->Nat) (v:Nat->V) (D:Nat->Hp) (H:Nat->Heap) (q:Nat->Option Nat),st 0=s.rs/\st l.length=out.rs/\(∀x,x∈s.ls->x∈out.ls)/\(∀x,x∈s.ts->x∈out.ts)/\∀i o,l[i]? =some o->
   Step C fl ops h0 (st i) o (jH (st i).an o) (st (i+1)) (k i) (v i) (D i) (H i) (q i)/\(∀x,q i=some x->x∈out.ls/\∃b,h0.get x=some b)/\(k i=2->∃t,Fa (st i).fr o=some t/\t∈out.ts)
 |[],s,out,h=>by cases h;exact⟨λ_=>s.rs,λ_=>0,λ_=>undef,λ_=>[],λ_=>⟨[],0⟩,λ_=>none,rfl,rfl,λ_ h=>h,λ_ h=>h,λi o h=>by simp at h⟩
 |o::l,s,out,h=>by
  obtain⟨s1,hs1,h⟩:=aj (show ob (a5i C fl ops an h0 s o (jH s.rs.an o)) (a1V C fl ops an h0 l)=some out from h)
  obtain⟨st,k,v,D,H,q,a1,a2,a3,a4,a5⟩:=IK l h
  have key:∃k0 v0 D0 H0 q0,Step C fl ops h0 s.rs o (jH s.rs.an o) s1.rs k0 v0 D0 H0 q0/\(∀x,x∈s.ls->x∈s1.ls)/\(∀x,x∈s.ts->x∈s1.ts)/\(∀x,q0=some x->x∈s1.ls/\∃b,h0.get x=some b)/\(k0=2->∃t,Fa s.rs.fr o=some t/\t∈s1.ts):=by
   unfold a5i at hs1
   cases hc:(oJ s.rs.os.length o&&jC ops o s.rs.fr)<;>rw[hc]at hs1<;>simp only[aeW,aeS]at hs1
   ·cases hs1
   simp only[aeI]at hc
   cases hw:gV ops o s.rs.fr<;>rw[hw]at hs1<;>simp only[aeW,aeS]at hs1
   ·obtain⟨r,hr,hs1⟩:=aj hs1
    cases hs1
    unfold stepD at hr
    rw[show(oJ s.rs.os.length o&&jC ops o s.rs.fr)=true by simp[hc],hw]at hr
    simp only[aeW,aeS]at hr
    exact⟨0,undef,[],⟨[],0⟩,none,yT hc.1 hc.2 hr (.inl ⟨hw,rfl⟩),λ_ h=>h,λ_ h=>h,λx h=>(by cases h),λh=>by cases h⟩
   ·cases hf':Uh C s.rs.fr h0 o (looseAt an s.rs.os.length 0 ops)with
    |some p=>
     have hf:Dj C s.rs.fr h0 o=some p:=by
      unfold Uh at hf'
      cases hb:looseAt an s.rs.os.length 0 ops<;>rw[hb]at hf'<;>simp only[aeW,aeS]at hf'
      ·cases hf'
      ·exact hf'
     rw[hf']at hs1
     obtain⟨r,hr,hs1⟩:=aj (show ob (endP ops s.rs o (jH s.rs.an o) p.2) (λr=>some ⟨r,p.1::s.ls,s.ts⟩)=some s1 from hs1)
     cases hs1
     exact⟨0,p.2,[],⟨[],0⟩,some p.1,yT hc.1 hc.2 hr (.inr (.inr ⟨hw,p.1,rfl,zA hf⟩)),λx h=>afd _ h,λ_ h=>h,λx h=>(by
      cases h
      obtain⟨_,_,_,_,_,_,_,_,_,hrd,_⟩:=zA hf
      obtain⟨b,hb,_⟩:=aj hrd
      exact⟨afh ..,b,hb⟩),λh=>by cases h⟩
    |none=>
     rw[hf']at hs1
     obtain⟨r,hr,hs1⟩:=aj (show ob (stepD C fl ops s.rs o (jH s.rs.an o)) (λr=>bif RH r.cl==2 then ob (Fa s.rs.fr o) λt=>some ⟨r,s.ls,t::s.ts⟩else some ⟨r,s.ls,s.ts⟩)=some s1 from hs1)
     obtain⟨k0,v0,D0,H0,hst⟩:=step_some h0 hr
     have hlast:RH r.cl=k0:=by rw[hst.cl];exact Ui _ _
     rw[hlast]at hs1
     cases hk:(k0==2)<;>rw[hk]at hs1<;>simp only[aeW,aeS]at hs1
     ·cases hs1
      exact⟨k0,v0,D0,H0,none,hst,λ_ h=>h,λ_ h=>h,λx h=>(by cases h),λh=>by rw[h]at hk;cases hk⟩
     ·obtain⟨t,ht,hs1⟩:=aj hs1
      cases hs1
      exact⟨k0,v0,D0,H0,none,hst,λ_ h=>h,λx h=>afd _ h,λx h=>(by cases h),λ_=>⟨t,ht,afh ..⟩⟩
  obtain⟨k0,v0,D0,H0,q0,b1,b2,b3,b4,b5⟩:=key
  refine⟨λi=>match i with |0=>s.rs|i+1=>st i,λi=>match i with |0=>k0|i+1=>k i,λi=>match i with |0=>v0|i+1=>v i,λi=>match i with |0=>D0|i+1=>D i,λi=>match i with |0=>H0|i+1=>H i,λi=>match i with |0=>q0|i+1=>q i,
   rfl,a2,λx hx=>a3 x (b2 x hx),λx hx=>a4 x (b3 x hx),λi p hp=>?_⟩
  cases i with
  |zero=>
   simp at hp;subst hp
   refine⟨?_,λx hx=>⟨a3 x (b4 x hx).1,(b4 x hx).2⟩,λh=>?_⟩
   ·show Step C fl ops h0 s.rs o (jH s.rs.an o) (st 0) k0 v0 D0 H0 q0
    rw[a1];exact b1
   ·obtain⟨t,h1,h2⟩:=b5 h
    exact⟨t,h1,a4 t h2⟩
  |succ i=>exact a5 i p (by simpa using hp)
theorem IV (hty:eY P C.ty)(hC:tu P C)(hm:P.follows .mixedOrders=true){opsA:Array Oper}{id:Nat}{Q:Exit->Act->World->Prop}{B:Nat}{s s':St}{r:Ren}{a:Act}{w:World}(hr:Rel s r B a w)
  (hs:a3K C fl opsA.toList s=some s') (hq:∀r' a' w',Rel s' r' B a' w'->Adv fl s.h r w s'.h r' w'->a'.defers=a.defers->Q .normal a' w'):(Code.region id opsA true).wp P Q a w:=by
 obtain⟨σ,hσ,hs⟩:=aj hs
 cases hc:(σ.ls.all λl=>σ.ts.all λt=>!(t==l))<;>rw[hc]at hs<;>simp only[aeW,aeS]at hs
 ·cases hs
 cases hs
 obtain⟨st,k,v,D,H,q,a1,a2,_,_,a5⟩:=IK _ hσ
 have a1:st 0=⟨s.fr,s.h.m,[],[],[],[],s.h.next⟩:=a1
 let T:Tr C fl opsA.toList s.fr s.h:=⟨st,k,v,D,H,q,a1,λi o ho=>(a5 i o ho).1⟩
 refine wR hty hC hm hr T a2 (λi l hin hl e he=>?_) hq
 -- nothing that is looked at at any time is written
 obtain⟨_,g2,_⟩:=a5 i _ (aeK hin)
 obtain⟨g3,b,hb⟩:=g2 l hl
 have hne:∀t,t∈σ.ts->l≠t:=λt ht e=>by
  have:=aeV.1 (aeV.1 hc l g3) t ht
  simp[e]at this
 have hln:l<s.h.next:=hr.i.n l (hr.i.hr.dom l b hb)
 have hlow:∀e,e<=opsA.toList.length->Hp.get ((T.st e).ds.flatten++(T.st e).hb) l=Hp.get (T.st e).hb l:=λe he=>by
  rw[Hp.get_append]
  cases hq':Hp.get (T.st e).ds.flatten l with
  |none=>rfl
  |some x=>
   exfalso
   obtain⟨j,d,h1,h2⟩:=oW _ hq'
   obtain⟨h3,h4⟩:=T.ds e he
   have hj:j<e:=by have:=(aeU.1 h1).1;omega
   rw[h4 j hj]at h1
   cases h1
   split at h2
   ·have hjn:j<opsA.toList.length:=by omega
    have hs:=T.step j _ (aeK hjn)
    have h0:s.h.next<=T.nx j:=by have:=T.ni (afb j) (afk hjn);rw[nx0]at this;exact this
    rcases hs.kind with⟨_,hD,_⟩|⟨_,hD,_⟩|⟨_,hD,_⟩
    ·rw[hD]at h2;cases h2
    ·rw[hD]at h2
     have:=(Dn _ _ h2).2
     have h0':s.h.next<=(T.st j).nx:=h0
     omega
    ·rw[hD]at h2;cases h2
   ·cases h2
 induction e with
 |zero=>rw[T.st0]
 |succ e ih=>
  have hen:e<opsA.toList.length:=he
  have ih':=ih (by omega)
  have ho:=aeK hen
  have hs:=T.step e _ ho
  obtain⟨_,_,h3⟩:=a5 e _ ho
  rcases hs.kind with⟨_,_,h1,_⟩|⟨_,_,h1,_⟩|⟨hk,_,h1,_,_,_,w1,hh,hcc⟩
  ·rw[h1];exact ih'
  ·rw[h1];exact ih'
  ·obtain⟨t,ht,htm⟩:=h3 hk
   rw[h1]
   have h0:s.h.next<=(T.st e).nx:=by have:=T.ni (afb e) (afk hen);rw[nx0]at this;exact this
   have hw2:how C (T.st e).fr ⟨sD (jH (T.st e).an opsA.toList[e]) 0 (T.st e).ds++(T.st e).hb,(T.st e).nx⟩ ⟨(T.st e).ds.flatten++(T.st e).hb,(T.st e).nx⟩ fl opsA.toList[e].op=.w (some (T.v e,T.H e))\/∃r,how C (T.st e).fr ⟨sD (jH (T.st e).an opsA.toList[e]) 0 (T.st e).ds++(T.st e).hb,(T.st e).nx⟩ ⟨(T.st e).ds.flatten++(T.st e).hb,(T.st e).nx⟩ fl opsA.toList[e].op=.qw r (some (T.v e,T.H e)):=by
    rcases hcc with h|⟨r',h⟩|⟨f,as,h,_⟩
    ·exact .inl (hh.trans h)
    ·exact .inr ⟨r',hh.trans h⟩
    ·exfalso
     have hcall:=hh.trans h
     have ht:Fa (T.st e).fr opsA.toList[e]=some t:=ht
     unfold Fa at ht
     split at ht
     ·rename_i hop;rw[hop]at hcall;cases hcall
     ·rename_i c hop
      split at ht
      ·rename_i s0 rest hcal hargs
       rw[hop]at hcall
       simp only[how,hcal,lZ,iG]at hcall
       cases hcall
      ·cases ht
     ·cases ht
   have:=a01 (C:=C) (fl:=fl) ht hw2 (hne t htm) (show l<(T.st e).nx by omega)
   rw[this,hlow e (by omega)]
   exact ih'
theorem I4 (hty:eY P C.ty)(hC:tu P C)(hm:P.follows .mixedOrders=true){opsA:Array Oper}{id:Nat}{Q:Exit->Act->World->Prop}{B:Nat}{s s':St}{r:Ren}{a:Act}{w:World}(hr:Rel s r B a w)
  (hs:region C fl opsA.toList true s=some s') (hq:∀r' a' w',Rel s' r' B a' w'->Adv fl s.h r w s'.h r' w'->a'.defers=a.defers->Q .normal a' w'):(Code.region id opsA true).wp P Q a w:=by
 have hs:orS (XW C fl opsA.toList s) (a3K C fl opsA.toList s)=some s':=hs
 cases hd:XW C fl opsA.toList s with
 |some x=>
  rw[hd]at hs
  cases hs
  exact JW hty hC hm hr hd hq
 |none=>
  rw[hd]at hs
  exact IV hty hC hm hr hs hq
end
end Am
namespace Am
open Go.RowKit
variable [Base]
section
variable {P:Program} {C:Ctx} {fl:Nat}
def XR:X->Exit->Prop
 | .normal,.normal=>True
 | .exit i,.exit j=>i=j
 | .ret,.ret=>True
 |_,_=>False
def Out (fl B:Nat)(s:St)(r:Ren)(a:Act)(w:World)(x:X)(s':St)(e:Exit)(a':Act)(w':World):Prop:=
 XR x e/\∃r',Rel s' r' B a' w'/\Adv fl s.h r w s'.h r' w'/\a'.defers=a.defers
theorem Out.trans {B:Nat}{s s1 s2:St}{r r1:Ren}{a a1 a2:Act}{w w1 w2:World}{x:X}{e:Exit}(h0:Rel s r B a w)(h1:Rel s1 r1 B a1 w1)(h:Adv fl s.h r w s1.h r1 w1)(hd:a1.defers=a.defers)(k:Out fl B s1 r1 a1 w1 x s2 e a2 w2):Out fl B s r a w x s2 e a2 w2:=by
 obtain⟨h2,r',h3,h4,h5⟩:=k
 exact⟨h2,r',h3,Adv.trans h0.i h1.i h h4,h5.trans hd⟩
def Does (P:Program)(C:Ctx)(fl n:Nat)(c:Code):Prop:=
 ∀{B:Nat} {s s':St} {x:X} {r:Ren} {a:Act} {w:World},Rel s r B a w->exec C fl n c s=some (x,s')->c.wp P (Out fl B s r a w x s') a w
def aO (P:Program)(L:Loops)(c:Code):Prop:=
 ∀{fl B:Nat} {s s':St} {x:X} {r:Ren} {a:Act} {w:World},Rel s r B a w->L c.tag fl s=some (x,s')->(Code.loop c).wp P (Out fl B s r a w x s') a w
def Loops.ok (Q:Code->Prop)(c:Code):Prop:=
 Code.rec (motive:=λ_=>Prop) True (λ_ _ _=>True) (λ_ _ a b=>a/\b) (λ_ _ _ a b=>a/\b) (λ_ _ a=>a) (λc a=>Q c/\a) (λ_ _ _ _ _ _=>True) (λ_=>True) (λ_ a=>a) (λ_=>True) (λ_=>True) True (λ_=>True) c
theorem Loops.wJ {Q:Code->Prop}(h:∀c,Q c)(c:Code):Loops.ok Q c:=by
 induction c with
 |seq c d hc hd=>exact⟨hc,hd⟩
 |cond c t e ht he=>exact⟨ht,he⟩
 |block id c hc=>exact hc
 |loop c hc=>exact⟨h c,hc⟩
 |scope c hc=>exact hc
 |_=>trivial
theorem aO.none (c:Code):aO P (λ_ _ _=>none) c:=λ_ h=>by cases h
theorem GH {r:XS}{k:St->XS}{x:X}{s:St}(h:RD r k=some (x,s)):(∃s',r=some (.normal,s')/\k s'=some (x,s))\/(r=some (x,s)/\x≠.normal):=by
 cases r with
 |none=>cases h
 |some p=>
  obtain⟨y,s'⟩:=p
  cases y with
  |normal=>exact .inl ⟨s',rfl,h⟩
  |exit j=>cases h;exact .inr ⟨rfl,λe=>by cases e⟩
  |ret=>cases h;exact .inr ⟨rfl,λe=>by cases e⟩
theorem a5j {n:Nat}{c d:Code}(hc:Does P C fl n c)(hd:Does P C fl n d):Does P C fl n (.seq c d):=by
 intro B s s' x r a w hr hx
 refine wp_seq ?_
 rcases GH (show RD (exec C fl n c s) (exec C fl n d)=some (x,s')from hx)with⟨s1,h1,h2⟩|⟨h1,h2⟩
 ·refine wp_mono (hc hr h1) λe a1 w1 ⟨h3,r1,h4,h5,h6⟩=>?_
  cases e<;>simp only[XR]at h3
  exact wp_mono (hd h4 h2) λe a2 w2 h7=>Out.trans hr h4 h5 h6 h7
 ·refine wp_mono (hc hr h1) λe a1 w1 h3=>?_
  cases e with
  |normal=>cases x<;>simp[Out,XR]at h3;exact absurd rfl h2
  |_=>exact h3
theorem EW {n:Nat}{c:Code}(hc:Does P C fl n c):∀(k:Nat) {B:Nat} {s s':St} {x:X} {r:Ren} {a:Act} {w:World},Rel s r B a w->rounds (exec C fl n c) k s=some (x,s')->
  ∀(b:Frame) (K:List Item) (cs:List Frame),∃e a' w',Out fl B s r a w x s' e a' w'/\Arrives P (lone (b.at a (.code c::.inLoop c::K)) cs w) b K cs e a' w'
 |0,_,_,_,_,_,_,_,_,h=>by cases h
 |k+1,B,s,s',x,r,a,w,hr,h=>by
  intro b K cs
  rcases GH (show RD (exec C fl n c s) (rounds (exec C fl n c) k)=some (x,s')from h)with⟨s1,h1,h2⟩|⟨h1,h2⟩
  ·obtain⟨e,a1,w1,⟨h3,r1,h4,h5,h6⟩,harr⟩:=hc hr h1 b (.inLoop c::K) cs
   cases e<;>simp only[XR]at h3
   obtain⟨e2,a2,w2,ho,harr2⟩:=EW hc k h4 h2 b K cs
   exact⟨e2,a2,w2,Out.trans hr h4 h5 h6 ho,.of_steps (Steps.trans harr (.one step_inLoop)) harr2⟩
  ·obtain⟨e,a1,w1,ho,harr⟩:=hc hr h1 b (.inLoop c::K) cs
   refine⟨e,a1,w1,ho,.pass (x:=.inLoop c) rfl (λ_ _=>.inl ?_) harr⟩
   intro he
   subst he
   cases x<;>simp[Out,XR]at ho
   exact h2 rfl
theorem YW {n:Nat}{c:Code}(hc:Does P C fl n c){B:Nat}{s s':St}{x:X}{r:Ren}{a:Act}{w:World}(hr:Rel s r B a w)(hx:rounds (exec C fl n c) n s=some (x,s')):(Code.loop c).wp P (Out fl B s r a w x s') a w:=by
 intro b K cs
 obtain⟨e,a',w',ho,harr⟩:=EW hc n hr hx b K cs
 exact⟨e,a',w',ho,.of_steps (.one step_loop) harr⟩
theorem Ph (hty:eY P C.ty)(hC:tu P C)(hm:P.follows .mixedOrders=true)(n:Nat)(c:Code):Loops.ok (aO P C.loop) c->Does P C fl n c:=by
 induction c with
 |skip=>intro _ B s s' x r a w hr hx;cases hx;exact wp_skip ⟨trivial,r,hr,Adv.refl fl hr.i,rfl⟩
 |label l=>intro _ B s s' x r a w hr hx;cases hx;exact wp_label ⟨trivial,r,hr,Adv.refl fl hr.i,rfl⟩
 |region id ops draw=>
  intro _ B s s' x r a w hr hx
  obtain⟨s1,h1,h2⟩:=aj (show ob (region C fl ops.toList draw s) nrm=some (x,s')from hx)
  cases h2
  cases draw with
  |true=>exact I4 hty hC hm hr h1 λr' a' w' g1 g2 g3=>⟨trivial,r',g1,g2,g3⟩
  |false=>exact wp_region_list (Jt hty hC ops.toList hr h1 λr' a' w' g1 g2 g3=>⟨trivial,r',g1,g2,g3⟩)
 |seq c d hc hd=>exact λhl=>a5j (hc hl.1) (hd hl.2)
 |cond c t e ht he=>
  intro hl B s s' x r a w hr hx
  obtain⟨y,hy,hx⟩:=aj (show a8J (evS s.fr c) (exec C fl n t s) (exec C fl n e s)=some (x,s')from hx)
  obtain⟨b,hb,hx⟩:=aj hx
  have hv:=o8 hb (fQ hr.f hy)
  cases b
  ·exact wp_cond_false hv (he hl.2 hr hx)
  ·exact wp_cond_true hv (ht hl.1 hr hx)
 |block id c hc=>
  intro hl B s s' x r a w hr hx
  have hx:a0w id (exec C fl n c s)=some (x,s'):=hx
  refine wp_block ?_
  cases he:exec C fl n c s with
  |none=>rw[he]at hx;cases hx
  |some p=>
   obtain⟨y,s1⟩:=p
   rw[he]at hx
   refine wp_mono (hc hl hr he) λe a1 w1 ⟨h3,r1,h4,h5,h6⟩=>?_
   cases y with
   |normal=>cases hx;cases e<;>simp only[XR]at h3;exact⟨trivial,r1,h4,h5,h6⟩
   |ret=>cases hx;cases e<;>simp only[XR]at h3;exact⟨trivial,r1,h4,h5,h6⟩
   |exit j=>
    cases e<;>simp only[XR]at h3
    subst h3
    have hx:(bif j==id then nrm s1 else some (.exit j,s1))=some (x,s'):=hx
    cases hj:(j==id)<;>rw[hj]at hx<;>cases hx
    ·have:j≠id:=by simpa using hj
     simp only[Exit.inBlock,afc this]
     exact⟨rfl,r1,h4,h5,h6⟩
    ·have:j=id:=by simpa using hj
     simp only[Exit.inBlock,afm this]
     exact⟨trivial,r1,h4,h5,h6⟩
 |loop c hc=>
  intro hl B s s' x r a w hr hx
  have hx:Pg (C.loop c.tag fl s) (rounds (exec C fl n c) n s)=some (x,s'):=hx
  cases ho:C.loop c.tag fl s with
  |none=>rw[ho]at hx;exact YW (hc hl.2) hr hx
  |some p=>rw[ho]at hx;cases hx;exact hl.1 hr ho
 |rangeFunc f ps as b h1 h2=>intro _ B s s' x r a w hr hx;cases hx
 |exit id=>intro _ B s s' x r a w hr hx;cases hx;exact wp_exit ⟨rfl,r,hr,Adv.refl fl hr.i,rfl⟩
 |scope c hc=>
  intro hl B s s' x r a w hr hx
  refine wp_scope_straight (wp_mono (hc hl hr hx) λe a1 w1 h=>?_)
  cases e<;>first |exact h|(obtain⟨h,_⟩:=h;cases x<;>simp[XR]at h)
 |goto l=>intro _ B s s' x r a w hr hx;cases hx
 |ret=>intro _ B s s' x r a w hr hx;cases hx;exact wp_ret ⟨trivial,r,hr,Adv.refl fl hr.i,rfl⟩
 |refuse y=>intro _ B s s' x r a w hr hx;cases hx
theorem XT {r r':Ren}{x:S}(h:x.flat=true){u:Value}(hu:VS r x u):VS r' x u:=by
 cases x<;>simp[S.flat]at h<;>exact hu
theorem Qo {r r':Ren}:∀{l:List S} {vs:List Value},l.all S.flat=true->au (VS r) l vs->au (VS r') l vs
 |[],[],_,_=>trivial
 |[],_::_,_,h=>h.elim
 |_::_,[],_,h=>h.elim
 |x::l,v::vs,h,k=>by
  simp only[afz,aeI]at h
  exact⟨XT h.1 k.1,Qo h.2 k.2⟩
theorem Qm {r r':Ren}{x:A}(h:x.flat=true){u:Value}(hu:VA r x u):VA r' x u:=by
 cases x with
 |s x=>simp[A.flat,A.cells]at h;exact XT h hu
 |g l=>
  obtain⟨vs,rfl,hl⟩:=hu
  exact⟨vs,rfl,Qo h hl⟩
theorem BL {r r':Ren}:∀{l:List A} {vs:List Value},l.all A.flat=true->au (VA r) l vs->au (VA r') l vs
 |[],[],_,_=>trivial
 |[],_::_,_,h=>h.elim
 |_::_,[],_,h=>h.elim
 |x::l,v::vs,h,k=>by
  simp only[afz,aeI]at h
  exact⟨Qm h.1 k.1,BL h.2 k.2⟩
def a6u (tmps:Array Value)(q:ResultVar):Sem Value:=match q with | .tmp t=>pure (tmps.getD t Go.undef)| .cell y t=>do loadVar t (<-asAddr (tmps.getD y Go.undef))
theorem Vk (fn:Func)(tmps:Array Value):results fn tmps=(do let vs <-fn.results.mapM (a6u tmps);pure (if h:vs.size=1 then vs[0]else .tuple vs)):=rfl
theorem a1y (hty:eY P C.ty){B:Nat}{s:St}{r:Ren}{a:Act}{w:World}(hr:Rel s r B a w){q:ResultVar}{x:A}(h:RU C s q=some x):
  ∃u,(a6u a.tmps q).run P w=.ok u w/\VA r x u:=by
 unfold RU at h
 split at h
 ·rename_i t
  obtain⟨v,hv,h⟩:=aj h
  have:=JD hr.f (x:=.tmp t) hv
  cases v with
  |a y=>cases h;exact⟨_,rfl,this⟩
  |t l=>cases h
  |any=>cases h
 ·rename_i y t
  obtain⟨T,hT,h⟩:=aj h
  obtain⟨v,hv,h⟩:=aj h
  obtain⟨z,hz,h⟩:=aj h
  obtain⟨z',hz',h⟩:=aj h
  obtain⟨p,hp,h⟩:=aj h
  obtain⟨cs,hcs,h⟩:=aj h
  have hptr:vH s.fr (.tmp y)=some p:=by
   show ob (ob (ob (nth s.fr y) V.isA) A.isS) S.Rz=some p
   rw[hv];simp[hz,hz',hp]
  obtain⟨h1,h2⟩:=rG hr.f hptr
  obtain⟨u,hu,hx⟩:=Gh (P:=P) hty hr.i hT hcs h
  have h2':a.tmps.getD y Go.undef=.pointer (some (r.at p.1 p.2)):=h2
  refine⟨u,?_,hx⟩
  simp only[Instr.loadAt,Instr.sureAddr,ahJ,ahL,ahH]at hu
  simp[a6u,h2',asAddr,hu]
def joined (vs:List Value):Value:=match vs with |[v]=>v|vs=>.tuple vs.toArray
theorem join_eq:∀vs:List Value,(if h:vs.toArray.size=1 then vs.toArray[0]else .tuple vs.toArray)=joined vs
 |[]=>rfl
 |[v]=>rfl
 |v::u::vs=>by
  rw[dif_neg (by simp)]
  rfl
theorem Ei {r:Ren}{rs:List A}{vs:List Value}(h:au (VA r) rs vs):VV r (resV rs) (joined vs):=by
 cases rs with
 |nil=>cases vs with
  |nil=>exact⟨[],rfl,trivial⟩
  |cons v vs=>exact h.elim
 |cons x rs=>cases vs with
  |nil=>exact h.elim
  |cons v vs=>cases rs with
   |nil=>cases vs with
    |nil=>exact h.1
    |cons _ _=>exact h.2.elim
   |cons y rs=>cases vs with
    |nil=>exact h.2.elim
    |cons u vs=>exact⟨v::u::vs,rfl,h⟩
theorem Vd (hty:eY P C.ty){B:Nat}{s:St}{r:Ren}{a:Act}{w:World}(hr:Rel s r B a w){fn:Func}{rs:List A}(h:rE (RU C s) fn.results.toList=some rs):
  ∃vs:List Value,(results fn a.tmps).run P w=.ok (joined vs) w/\au (VA r) rs vs:=by
 have key:∀(l:List ResultVar) (rs:List A),rE (RU C s) l=some rs->∃vs:List Value,au (VA r) rs vs/\
   (l.mapM (a6u a.tmps)).run P w=.ok vs w:=by
  intro l
  induction l with
  |nil=>intro rs h;cases h;exact⟨[],trivial,by simp⟩
  |cons q l ih=>
   intro rs h
   rw[lQ]at h
   obtain⟨x,hx,h⟩:=aj h
   obtain⟨rs',hrs,h⟩:=aj h
   cases h
   obtain⟨u,hu,hv⟩:=a1y hty hr hx
   obtain⟨vs,h1,h2⟩:=ih rs' hrs
   refine⟨u::vs,⟨hv,h1⟩,?_⟩
   rw[List.mapM_cons]
   simp only[ahJ,hu,ahH,h2,ahL]
 obtain⟨vs,h1,h2⟩:=key fn.results.toList rs h
 refine⟨vs,?_,h1⟩
 rw[Vk,Array.mapM_eq_mapM_toList]
 simp only[ahJ,Sem.run_map,h2,ahH,ahL]
 congr 1
 exact join_eq vs
theorem xE {α β:Type}{R:α->β->Prop}{x:α}{y:β}(h:R x y):∀n,au R (aij n x) (aij n y)
 |0=>trivial
 |n+1=>⟨h,xE h n⟩
theorem Vo {r:Ren}:∀{as:List A} {vs:List Value},au (VA r) as vs->au (VV r) (as.map V.a) vs
 |[],[],_=>trivial
 |[],_::_,h=>h.elim
 |_::_,[],h=>h.elim
 |_::_,_::_,h=>⟨h.1,Vo h.2⟩
theorem Xt (hty:eY P C.ty)(hC:tu P C)(hm:P.follows .mixedOrders=true){n:Nat}{f:FuncId}{fn:Func}(hf:P.funcs[f]? =some fn)(hL:∀c,fn.body=some c->Loops.ok (aO P C.loop) c){args:List A}{h:Heap}{v:V}{h':Heap}(hb:body C n fn args h fl=some (v,h'))
  {r:Ren} {B:Nat} {w:World} {vs:List Value} (hi:Inv h r B w) (hargs:au (VA r) args vs):Calls P f vs.toArray w λe w'=>∃u,e=.returned u/\Post B fl h r w v h' u w':=by
 obtain⟨c,hc,hb⟩:=aj hb
 obtain⟨p,hp,hb⟩:=aj hb
 obtain⟨x,s'⟩:=p
 have hlen:=hargs.len
 have hrel:Rel ⟨args.map V.a++aij (fn.ntmps-args.length) undef,h⟩ r B { tmps:=vs.toArray++aii (fn.ntmps-vs.toArray.size) Go.undef,defers:=[] } w:=by
  refine⟨?_,hi⟩
  show au (VV r) _ (vs.toArray++aii (fn.ntmps-vs.toArray.size) Go.undef).toList
  simp only[Array.toList_append,Array.toList_replicate,afw]
  rw[hlen]
  exact(Vo hargs).app (xE VS.undef _)
 have hend:∀a' w' r',Rel s' r' B a' w'->Adv fl h r w s'.h r' w'->bodyEnd C fn h fl s'=some (v,h')->∃u,(results fn a'.tmps).run P w'=.ok u w'/\Post B fl h r w v h' u w':=by
  intro a' w' r' h1 h2 h3
  obtain⟨rs,hrs,h3⟩:=aj h3
  obtain⟨us,hu,hus⟩:=Vd (P:=P) hty h1 hrs
  refine⟨_,hu,?_⟩
  cases hk:aib h.next fl<;>rw[hk]at h3<;>simp only[aeW,aeS]at h3
  ·cases h3
   exact⟨r',h1.i,Ei hus,h2⟩
  cases hk2:rs.all A.flat<;>rw[hk2]at h3<;>simp only[aeW,aeS]at h3<;>cases h3
  ·obtain⟨t1,t2⟩:=Zb h.next rs s'.h r'
   exact⟨r',t1.inv h1.i,Ei hus,t1.adv (λl hl _=>t2 l hl) h2⟩
  ·have hfl:=aff hk
   have hold:∀b,b<w.heap.size->w'.heap[b]? =w.heap[b]? :=λb hb=>h2.frame b hb λl k hl _ hfl'=>by
    have:=hi.n l (hi.hr.dom l k hl);omega
   exact⟨r,⟨hi.n,afv hi.b h2.size,hi.hr.keep hi.b hold⟩,Ei (BL hk2 hus),Ren.le.refl r,aeM _,λ_ h=>.inl h,h2.os,h2.tape,h2.output,h2.size,λb hb _=>hold b hb,
    λ_ _ _=>rfl,λ_ b' _ h=>⟨b',h,rfl⟩,λl b' hl hb=>absurd (hi.n l (hi.hr.dom l b' hb)) (aip.2 hl)⟩
 refine calls_of_wp hf hc (wp_mono (Ph hty hC hm n c (hL c hc) hrel hp) λe a' w' ⟨h1,r',h2,h3,h4⟩=>?_)
 cases x with
 |exit j=>cases hb
 |normal=>
  cases e<;>simp only[XR]at h1
  obtain⟨u,hu,hP⟩:=hend a' w' r' h2 h3 hb
  exact⟨h4,u,hu,u,rfl,hP⟩
 |ret=>
  cases e<;>simp only[XR]at h1
  obtain⟨u,hu,hP⟩:=hend a' w' r' h2 h3 hb
  exact⟨h4,u,hu,u,rfl,hP⟩
def r0:Ren:=⟨λ_=>False,λ_=>0,λ_=>0,λ_=>0⟩
theorem V.a4j {x:V}(h:x.flat=true){r r':Ren}{u:Value}(k:VV r x u):VV r' x u:=by
 cases x with
 |a x=>exact Qm h k
 |t l=>obtain⟨us,e,k⟩:=k;exact⟨us,e,BL h k⟩
 |any=>cases h
theorem Post.below {B fl:Nat}{h:Heap}{r:Ren}{w:World}{v:V}{u:Value}{w':World}(hi:Inv h r B w)(hb:Below w.heap.size w w')(hv:VV r v u):Post B fl h r w v h u w':=
 ⟨r,⟨hi.n,afv hi.b hb.size,hi.hr.keep hi.b hb.block⟩,hv,Ren.le.refl r,aeM _,λ_ h=>.inl h,hb.os,hb.tape,hb.output,hb.size,λb hlt _=>hb.block b hlt,λ_ _ _=>rfl,λ_ b' _ h=>⟨b',h,rfl⟩,
  λl b' hl hb'=>absurd (hi.n l (hi.hr.dom l b' hb')) (aip.2 hl)⟩
theorem S.force_eq {β:Type}(x:S)(k:S->β):x.force k=k x:=by cases x<;>rfl
theorem LV {β:Type}:∀(l:List S) (k:List S->β),SQ l k=k l
 |[],_=>rfl
 |x::l,k=>by
  show x.force (λx=>SQ l λt=>k (x::t))=_
  rw[S.force_eq,LV l]
theorem A.force_eq {β:Type}(x:A)(k:A->β):x.force k=k x:=by
 cases x with
 |s x=>exact S.force_eq x λx=>k (.s x)
 |g l=>exact LV l λl=>k (.g l)
theorem KQ {β:Type}:∀(l:List A) (k:List A->β),V5 l k=k l
 |[],_=>rfl
 |x::l,k=>by
  show x.force (λx=>V5 l λt=>k (x::t))=_
  rw[A.force_eq,KQ l]
theorem a14 {C:Ctx}{F:Func}{f:FuncId}{n:Nat}{args:List A}{h:Heap}{fl:Nat}{v:V}{h':Heap}(hty:eY P C.ty)(hC:tu P C)(hm:P.follows .mixedOrders=true)(hf:P.funcs[f]? =some F)(hL:∀c,F.body=some c->Loops.ok (aO P C.loop) c)
  (hr:Qb C n F args h fl=some (v,h')):F.body.isNone=false/\∀r B w vs,Inv h r B w->au (VA r) args vs->Calls P f vs.toArray w λe w'=>∃u,e=.returned u/\Post B fl h r w v h' u w':=by
 unfold Qb at hr
 cases hc:(a95 C.ty F&&args.all A.flat)<;>rw[hc]at hr<;>simp only[aeW,aeS]at hr
 ·obtain⟨c,hc',_⟩:=aj hr
  exact⟨by rw[hc'];rfl,λr B w vs hi ha=>Xt hty hC hm hf hL hr hi ha⟩
 ·rw[KQ]at hr
  obtain⟨p,hp,hr⟩:=aj hr
  cases hv:p.1.flat<;>rw[hv]at hr<;>simp only[aeW,aeS]at hr<;>cases hr
  obtain⟨c,hc',_⟩:=aj hp
  simp only[aeI]at hc
  refine⟨by rw[hc'];rfl,λr B w vs hi ha=>?_⟩
  have hi0:Inv ⟨[],0⟩ r0 w.heap.size w:=
   ⟨λl h=>h.elim,aeM _,λl b h=>(by cases h),λl b h=>(by cases h),λl b h=>(by cases h),λl b l' b' h=>(by cases h),afv hi.hr.nb hi.b,hi.hr.z⟩
  refine(Xt (v:=p.1) (h':=p.2) hty hC hm hf hL hp hi0 (BL hc.2 ha)).mono λe w' ⟨u,e1,r',i,e2,ad⟩=>⟨u,e1,Post.below hi ⟨ad.os,ad.tape,ad.output,ad.size,λk hk=>ad.frame k hk λl c hl _ _=>by cases hl⟩ (V.a4j hv e2)⟩
def a4P (P:Program)(fn:FuncId->Option Func):Prop:=∀f F,fn f=some F->P.funcs[f]? =some F/\(F.name== "runtime.NumGoroutine")=false
theorem yF {ty:Tys}(hty:eY P ty){fn:FuncId->Option Func}(hfn:a4P P fn){lib:aU}(hl:Sound P lib)(hm:P.follows .mixedOrders=true){tb:Tabs}(htb:bQ tb){loops:FuncId->Loops}
  (hL:∀f F c,P.funcs[f]? =some F->F.body=some c->Loops.ok (aO P (loops f)) c) (n:Nat):∀d,Sound P (qR ty fn lib tb loops n d)
 |0=>λf args h fl v h' hr=>by cases hr
 |d+1=>λf args h fl v h' hr=>by
  have hr:orR (lib f args h fl) (ob (fn f) λF=>Qb ⟨ty,qR ty fn lib tb loops n d,tb,loops f⟩ n F args h fl)=some (v,h'):=hr
  cases hlib:lib f args h fl with
  |some x=>rw[hlib]at hr;cases hr;exact hl _ _ _ _ _ _ hlib
  |none=>
   rw[hlib]at hr
   obtain⟨F,hF,hb⟩:=aj (show ob (fn f) (λF=>Qb ⟨ty,qR ty fn lib tb loops n d,tb,loops f⟩ n F args h fl)=some (v,h')from hr)
   obtain⟨h1,h2⟩:=hfn f F hF
   obtain⟨hc,hk⟩:=a14 (C:=⟨ty,qR ty fn lib tb loops n d,tb,loops f⟩) hty ⟨yF hty hfn hl hm htb hL n d,htb⟩ hm h1 (λc hc=>hL f F c h1 hc) hb
   exact⟨⟨F,h1,h2,hc⟩,hk⟩
theorem VU {ty:Tys}(hty:eY P ty){fn:FuncId->Option Func}(hfn:a4P P fn){lib:aU}(hl:Sound P lib)(hm:P.follows .mixedOrders=true)(n:Nat)(d:Nat):Sound P (runs ty fn lib n d):=
 yF hty hfn hl hm bQ.nought (λ_ _ _ _ _=>Loops.wJ (aO.none) _) n d
end
end Am
namespace Am
open Go.RowKit
def Pm [Base](Q:World->Prop):Prop:=∀w:World,(∀b,b<Base.nb->w.heap[b]? =Base.g b)->Q w
section
variable [Base] {P:Program}
theorem fG {O O':aU}(h:Sound P O)(k:Sound P O'):Sound P (λf args h fl=>orR (O f args h fl) (O' f args h fl)):=by
 intro f args h' fl v h'' e
 have e:orR (O f args h' fl) (O' f args h' fl)=some (v,h''):=e
 cases ho:O f args h' fl with
 |none=>rw[ho]at e;exact k f args h' fl v h'' e
 |some x=>rw[ho]at e;cases e;exact h f args h' fl v h'' ho
noncomputable def uF (f0:FuncId)(g:List A->Option V):aU:=λf args h _=>bif f==f0 then ob (g args) (λv=>some (v,h))else none
theorem kF {f0:FuncId}{g:List A->Option V}(hc:dJ P f0)
  (hg:∀args v,g args=some v->∀(r:Ren) (vs:List Value),au (VA r) args vs->Pm λw=>Calls P f0 vs.toArray w λe w'=>∃u,e=.returned u/\VV r v u/\Below w.heap.size w w'):Sound P (uF f0 g):=by
 intro f args h fl v h' e
 unfold uF at e
 cases hf:(f==f0)<;>rw[hf]at e<;>simp only[aeW,aeS]at e
 ·cases e
 obtain rfl:f=f0:=by simpa using hf
 obtain⟨v',hv,e⟩:=aj e
 cases e
 exact⟨hc,λr B w vs hi ha=>(hg args v hv r vs ha w hi.hr.z).mono λe w' ⟨u,e1,e2,e3⟩=>⟨u,e1,Post.below hi e3 e2⟩⟩
end
theorem JL [Base]{P:Program}{O:aU}(hO:Sound P O){f:FuncId}{args:List A}{h:Heap}{v:V}{h':Heap}(hr:O f args h h.next=some (v,h')){r:Ren}{w:World}{vs:List Value}(hi:Inv h r w.heap.size w)(ha:au (VA r) args vs):
  Calls P f vs.toArray w λe w'=>∃u r',e=.returned u/\VV r' v u/\Inv h' r' w.heap.size w'/\Below w.heap.size w w':=by
 obtain⟨_,hc⟩:=hO _ _ _ _ _ _ hr
 refine(hc r w.heap.size w vs hi ha).mono λe w' ⟨u,e1,r',i,e2,ad⟩=>⟨u,r',e1,e2,i,⟨ad.os,ad.tape,ad.output,ad.size,λk hk=>ad.frame k hk λl c hl _ hfl=>?_⟩⟩
 have:=hi.n l (hi.hr.dom l c hl)
 omega
abbrev Base.plain (nb:Nat)(w0:World):Base:={ Know.nought with nb:=nb,g:=λb=>w0.heap[b]?,rho:=λ_=>0,sig:=λ_=>[],ok:=aC.nought _ _ }
abbrev Base.known (K:Know){rho:Nat->Int}{sig:Nat->List UInt8}(ok:aC K rho sig)(nb:Nat)(w0:World):Base:={ K with nb:=nb,g:=λb=>w0.heap[b]?,rho:=rho,sig:=sig,ok:=ok }
theorem je [b:Base]{P:Program}(w:World)(hnb:Base.nb<=w.heap.size)(hg:∀k,k<Base.nb->w.heap[k]? =Base.g k){O:aU}(hO:Sound P O){f:FuncId}{args:List A}{vs:List Value}(ha:au (VA r0) args vs){v:V}{h':Heap}(hr:O f args ⟨[],0⟩ 0=some (v,h')):
  Calls P f vs.toArray w λe w'=>∃u r',e=.returned u/\VV r' v u/\Below w.heap.size w w':=by
 have hi:Inv ⟨[],0⟩ r0 w.heap.size w:=
  ⟨λl h=>h.elim,aeM _,λl b h=>(by cases h),λl b h=>(by cases h),λl b h=>(by cases h),λl b l' b' h=>(by cases h),hnb,hg⟩
 exact(JL hO hr hi ha).mono λe w' ⟨u,r',e1,e2,_,e3⟩=>⟨u,r',e1,e2,e3⟩
def S.same (x y:S):Bool:=
 match x,y with
 | .bool a,.bool b=>a==b
 | .int k a,.int l b=>k==l&&decide (a=b)
 | .str a,.str b=>iO (a.map UInt8.toNat) (b.map UInt8.toNat)
 | .xi k i,.xi l j=>k==l&&aic i j
 | .xs a,.xs b=>iO a b
 | .PV,.PV=>true
 | .uQ,.uQ=>true
 | .Qu,.Qu=>true
 |_,_=>false
def iT {α:Type}(f:α->α->Bool):List α->List α->Bool
 |[],[]=>true
 |x::r,y::s=>f x y&&iT f r s
 |_,_=>false
def A.same (x y:A):Bool:=match x,y with | .s x,.s y=>x.same y| .g l,.g m=>iT S.same l m|_,_=>false
theorem a1m:∀{a b:List Nat},iO a b=true->a=b
 |[],[],_=>rfl
 |a::r,b::s,h=>by
  simp only[iO,aeI]at h
  rw[aeX h.1,a1m h.2]
 |[],_::_,h=>by cases h
 |_::_,[],h=>by cases h
theorem VQ:∀{a b:List UInt8},a.map UInt8.toNat=b.map UInt8.toNat->a=b
 |[],[],_=>rfl
 |x::a,y::b,h=>by
  simp only[afr,ahz]at h
  rw[UInt8.toNat_inj.1 h.1,VQ h.2]
 |[],_::_,h=>by cases h
 |_::_,[],h=>by cases h
theorem S.kG {x y:S}(h:x.same y=true):x=y/\x.flat=true:=by
 unfold S.same at h
 split at h
 ·simp at h;subst h;exact⟨rfl,rfl⟩
 ·simp at h;obtain⟨rfl,rfl⟩:=h;exact⟨rfl,rfl⟩
 ·rw[VQ (a1m h)];exact⟨rfl,rfl⟩
 ·simp only[aeI,ag4]at h
  obtain⟨rfl,h⟩:=h
  rw[aeX h]
  exact⟨rfl,rfl⟩
 ·rw[a1m h];exact⟨rfl,rfl⟩
 ·exact⟨rfl,rfl⟩
 ·exact⟨rfl,rfl⟩
 ·exact⟨rfl,rfl⟩
 ·cases h
theorem JF {α:Type}{f:α->α->Bool}{g:α->Bool}(hf:∀x y,f x y=true->x=y/\g x=true):∀{l m:List α},iT f l m=true->l=m/\l.all g=true
 |[],[],_=>⟨rfl,rfl⟩
 |[],_::_,h=>by cases h
 |_::_,[],h=>by cases h
 |x::l,y::m,h=>by
  simp only[iT,aeI]at h
  obtain⟨rfl,h1⟩:=hf _ _ h.1
  obtain⟨rfl,h2⟩:=JF hf h.2
  exact⟨rfl,by simp[h1]at h2 |-;exact h2⟩
theorem A.kG {x y:A}(h:x.same y=true):x=y/\x.flat=true:=by
 unfold A.same at h
 split at h
 ·obtain⟨rfl,h1⟩:=S.kG h
  exact⟨rfl,by simp[A.flat,A.cells,h1]⟩
 ·obtain⟨rfl,h1⟩:=JF (λx y=>S.kG) h
  exact⟨rfl,h1⟩
 ·cases h
open Go.ChangeShapes Go.WideShapes
inductive Kd where
 |b
 |i (k:IntKind)
 |s
def Kd.ok (kd:Kd)(v:Value):Prop:=
 match kd with
 | .b=>∃x:Bool,v=.bool x
 | .i k=>∃n:Int,v=.int k n/\k.min<=n/\n<=k.max
 | .s=>∃s:ByteArray,v=.string s/\(s.size:Int)<=IntKind.i64.max
def a2F (P:Program)(t:TypeId):Option Kd:=
 match P.underlying t with
 |some .bool=>some .b
 |some (.int k)=>some (.i k)
 |some .string=>some .s
 |_=>none
theorem fZ {α β:Type}{R:α->β->Prop}:∀{l:List α} {r:List β},l.length=r.length->(∀(i:Nat) (a:α) (b:β),l[i]? =some a->r[i]? =some b->R a b)->au R l r
 |[],[],_,_=>trivial
 |x::l,y::r,hl,h=>⟨h 0 x y rfl rfl,fZ (by simpa using hl) λi a b ha hb=>h (i+1) a b (by simpa using ha) (by simpa using hb)⟩
 |[],_::_,hl,_=>by simp at hl
 |_::_,[],hl,_=>by simp at hl
theorem pU {i j:Nat}:∀{l:List (Nat×Nat)},jO l i j=true->(i,j)∈l
 |[],h=>by cases h
 |(p,q)::t,h=>by
  have h:((aic p i&&aic q j)||jO t i j)=true:=h
  simp only[afJ,aeI]at h
  rcases h with⟨h1,h2⟩|h
  ·rw[aeX h1,aeX h2];simp
  ·simp[pU h]
noncomputable def Dy (l:List Int):Nat->Int:=λi=>(nth l i).getD 0
noncomputable def Iw (l:List (List UInt8)):Nat->List UInt8:=λi=>(nth l i).getD []
