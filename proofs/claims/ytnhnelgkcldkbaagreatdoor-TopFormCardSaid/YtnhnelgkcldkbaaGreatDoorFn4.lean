/- Jumps. -/
import Derived.Test.YtnhnelgkcldkbaaGreatDoorEncF
import Derived.Test.YtnhnelgkcldkbaaGreatDoorFn2
set_option linter.all false
set_option maxHeartbeats 1000000
set_option maxRecDepth 100000
noncomputable section
namespace Go.Proofs.YtnhnelgkcldkbaaGreatDoor
namespace Am
open Go.RowKit
def qG:Lf:=L0J
def abw:Sp:=.cut 6 1 (.cut 9 1 .leaf .leaf) .leaf
def aaT:Sp:=.cut 6 0 .leaf abw
def abY:Sp:=.conj [(1,0),(2,0),(3,0),(4,0),(5,0)] .leaf .leaf
def YN:Sp:=.cut 6 0 .leaf (.cut 6 1 (.cut 9 1 (.conj [(10,0),(11,0),(12,0)] abY .leaf) .leaf) .leaf)
def a8l:Sp:=.cut 6 0 .leaf (.cut 6 1 (.cut 9 1 (.conj [(10,0),(11,0),(12,0)] .leaf .leaf) .leaf) .leaf)
def abr:Sp:=.cut 8 0 YN (.cut 8 1 (.conj [(1,0),(2,0),(3,0),(4,0),(5,0)] a8l a8l) YN)
def a81:Sp:=.cut 6 0 .leaf (.cut 6 1 (.cut 9 1 (.conj [(10,0),(11,0),(12,0)] (.cut 14 1 .leaf .leaf) .leaf) .leaf) .leaf)
def abx:Sp:=.cut 7 0 YN (.cut 7 1 abr YN)
def ad4:Sp:=.cut 15 1 .leaf .leaf
def abv:Sp:=.cut 9 9 ad4 .leaf
def Xx:Sp:=.cut 6 0 abY (.cut 6 1 (.cut 9 1 (.conj [(1,0),(2,0),(3,0),(4,0),(5,0)] ad4 .leaf) (.conj [(1,0),(2,0),(3,0),(4,0),(5,0)] abv .leaf)) (.conj [(1,0),(2,0),(3,0),(4,0),(5,0)] (.cut 6 8 abv .leaf) .leaf))
def a3w:Sp:=.cut 6 1 .leaf .leaf
def a8A:Sp:=.cut 13 1 a3w a3w
def oZ:Sp:=.cut 0 4 (.cut 0 2 (.cut 0 1 aaT (.cut 7 0 YN (.cut 7 24 abr YN))) (.cut 0 3 (.cut 7 0 a81 (.cut 7 24 (.cut 8 0 a81 (.cut 8 24 (.cut 14 1 a8l a8l) a81)) a81)) abx)) (.cut 0 5 (.cut 7 0 Xx (.cut 7 24 (.cut 8 0 Xx (.cut 8 1 (.conj [(1,0),(2,0),(3,0),(4,0),(5,0)] (.cut 6 0 .leaf (.cut 6 8 (.cut 9 9 (.cut 15 1 abw (.cut 9 1 a8A a8A)) a3w) .leaf)) aaT) Xx)) Xx)) (.cut 0 6 abx aaT))
theorem a8k:ckB (jAt m8 80) oZ qG 20 0=true:=by kernel_rfl
theorem a6E:ckB (jAt m8 80) oZ qG 20 1=true:=by kernel_rfl
theorem a7V:ckB (jAt m8 80) oZ qG 20 2=true:=by kernel_rfl
theorem a6o:ckB (jAt m8 80) oZ qG 20 3=true:=by kernel_rfl
theorem a6y:ckB (jAt m8 80) oZ qG 20 4=true:=by kernel_rfl
theorem a6K:ckB (jAt m8 80) oZ qG 20 5=true:=by kernel_rfl
theorem a7t:ckB (jAt m8 80) oZ qG 20 6=true:=by kernel_rfl
theorem a8s:ckB (jAt m8 80) oZ qG 20 7=true:=by kernel_rfl
theorem a6J:ckB (jAt m8 80) oZ qG 20 8=true:=by kernel_rfl
theorem a5z:ckB (jAt m8 80) oZ qG 20 9=true:=by kernel_rfl
theorem a1r:ckB (jAt m8 80) oZ qG 20 10=true:=by kernel_rfl
theorem aan:(oZ.leaves qG).all (jAt m8 80)=true:=mD _ 20 11 _ (aff (by kernel_rfl)) λi hi=>match i,hi with
 |0,_=>a8k
 |1,_=>a6E
 |2,_=>a7V
 |3,_=>a6o
 |4,_=>a6y
 |5,_=>a6K
 |6,_=>a7t
 |7,_=>a8s
 |8,_=>a6J
 |9,_=>a5z
 |10,_=>a1r
 |i+11,h=>absurd h (by omega)
theorem BO:NT 80 v8:=Ij AX (sp:=oZ) aan
theorem a7w:ckB (jAt mB 85) oZ qG 20 0=true:=by kernel_rfl
theorem a7z:ckB (jAt mB 85) oZ qG 20 1=true:=by kernel_rfl
theorem a5m:ckB (jAt mB 85) oZ qG 20 2=true:=by kernel_rfl
theorem a7U:ckB (jAt mB 85) oZ qG 20 3=true:=by kernel_rfl
theorem a5Q:ckB (jAt mB 85) oZ qG 20 4=true:=by kernel_rfl
theorem a7x:ckB (jAt mB 85) oZ qG 20 5=true:=by kernel_rfl
theorem a5U:ckB (jAt mB 85) oZ qG 20 6=true:=by kernel_rfl
theorem a88:ckB (jAt mB 85) oZ qG 20 7=true:=by kernel_rfl
theorem a7b:ckB (jAt mB 85) oZ qG 20 8=true:=by kernel_rfl
theorem a7c:ckB (jAt mB 85) oZ qG 20 9=true:=by kernel_rfl
theorem a0m:ckB (jAt mB 85) oZ qG 20 10=true:=by kernel_rfl
theorem a9K:(oZ.leaves qG).all (jAt mB 85)=true:=mD _ 20 11 _ (aff (by kernel_rfl)) λi hi=>match i,hi with
 |0,_=>a7w
 |1,_=>a7z
 |2,_=>a5m
 |3,_=>a7U
 |4,_=>a5Q
 |5,_=>a7x
 |6,_=>a5U
 |7,_=>a88
 |8,_=>a7b
 |9,_=>a7c
 |10,_=>a0m
 |i+11,h=>absurd h (by omega)
theorem Sj:NT 85 .bool:=Ij a1X (sp:=oZ) a9K
def abL (post:List Value):Prop:=ah post 1=1\/0<ah post 2
instance (post:List Value):Decidable (abL post):=inferInstanceAs (Decidable (_\/_))
theorem zsv {us:List Value}{o n:Nat}(h:(E.zero (zs o n)).val us=true):∀i,i<n->ah us (o+i)=0:=by
 intro i hi
 simp only[E.val,aeV,zs,afo,afs]at h
 exact agu (h (o+i,0) ⟨i,hi,rfl⟩)
theorem Kq {us:List Value}{i:Nat}{c:Int}(h:(E.zero [(i,c)]).val us=true):ah us i=c:=by
 simp only[E.val,afz,agV,afg]at h
 exact agu h
theorem inv {us:List Value}{i:Nat}{c:Int}(h:(CB i c).val us=true):0<=ah us i/\ah us i<c:=by
 simp only[CB,E.ands,E.val,aeI,ag3,af6,afB]at h
 omega
section
variable {w:World} {v:Value} {pre:List Value} {sv:Value} {post:List Value} {els:List (List Value)} (hj:jd w v pre sv post els)
include hj
theorem U7 {i:Nat}(h:i<9):ah (aW pre els post) i=ah pre i:=jy (by rw[ji hj];exact h)
theorem a7X (i:Nat):ah (aW pre els post) (10+i)=ah post i:=by
 unfold aW
 have:pre++Value.int .i64 els.length::post=(pre++[Value.int .i64 els.length])++post:=by simp
 rw[this,lg (by simp[ji hj])]
inductive IsJ (pre:List Value)(els:List (List Value))(post:List Value):Prop where
 |goto (k:ah pre 0=1) (a:∀i,i<6->ah pre (1+i)=0) (n:0<=ah pre 7/\ah pre 7<24) (e:ah pre 8=0) (l:els=[]) (d:∀i,i<3->ah post i=0)
 |branch (k:ah pre 0=2) (a:(aY 0).val ((pre.drop 1).take 5)=true) (f:ah pre 6=0) (n:0<=ah pre 7/\ah pre 7<24) (e:0<=ah pre 8/\ah pre 8<24) (l:els=[]) (d:∀i,i<3->ah post i=0)
 |last (k:ah pre 0=3\/ah pre 0=5) (a:∀i,i<8->ah pre (1+i)=0) (l:els=[]) (d:∀i,i<3->ah post i=0)
 |call (k:ah pre 0=4) (a:∀i,i<5->ah pre (1+i)=0) (f:0<=ah pre 6/\ah pre 6<8) (n:0<=ah pre 7/\ah pre 7<24) (e:ah pre 8=0) (l:els.length<9) (d:(dX 0).val post=true) (o:(els.all λel=>(aY 0).val el)=true)
theorem isJ (h:okJ pre els post=true):IsJ pre els post:=by
 have hl:=jS hj
 have lt:∀{i:Nat},i<13->ah (aW pre els post++(kV pre els post).map (Value.int .i64)) i=ah (aW pre els post) i:=λ{i} hi=>jy (by rw[hl];exact hi)
 have bit:∀{j:Nat} {x:Bool},(kV pre els post)[j]? =some (b2i x)->ah (aW pre els post++(kV pre els post).map (Value.int .i64)) (13+j)=1->x=true:=λ{j x} hx hc=>by
  rw[lg hl]at hc
  unfold ah at hc
  rw[aeT,hx]at hc
  have hc:b2i x=1:=hc
  cases x
  ·cases hc
  ·rfl
 have e:∀vs:List Value,Uu.val vs=(((E.zero [(0,1)]).val vs&&((E.zero (zs 1 6)).val vs&&((CB 7 24).val vs&&(E.zero (zs 8 5)).val vs)))||
   (((E.zero [(0,2)]).val vs&&((E.zero [(14,1)]).val vs&&((E.zero [(6,0)]).val vs&&((CB 7 24).val vs&&((CB 8 24).val vs&&(E.zero (zs 9 4)).val vs)))))||
   ((((E.zero [(0,3)]).val vs||(E.zero [(0,5)]).val vs)&&(E.zero (zs 1 12)).val vs)||
   ((E.zero [(0,4)]).val vs&&((E.zero (zs 1 5)).val vs&&((CB 6 8).val vs&&((CB 7 24).val vs&&((E.zero [(8,0)]).val vs&&((E.lt 9 9).val vs&&((E.zero [(15,1)]).val vs&&(E.zero [(13,1)]).val vs)))))))))):=λ_=>rfl
 unfold okJ at h
 rw[e]at h
 simp only[afJ,aeI]at h
 have ln:=uG hj
 have nil0:ah (aW pre els post) 9=0->els=[]:=λh0=>afA (by rw[ln]at h0;omega)
 have pr:=λ{i:Nat} (hi:i<9)=>(lt (show i<13 by omega)).trans (U7 hj hi)
 have po:=λ{i:Nat} (hi:i<3)=>(lt (show 10+i<13 by omega)).trans (a7X hj i)
 rcases h with⟨k,a,n,z⟩|⟨k,a,f,n,e8,z⟩|⟨k,z⟩|⟨k,a,f,n,e8,l,d,o⟩
 ·have a:=zsv a;have n:=inv n;have z:=zsv z;have k:=Kq k
  rw[pr (by decide)]at k n
  refine .goto k (λi hi=>?_) n ?_ (nil0 ?_) λi hi=>?_
  ·rw[<-pr (by omega)];exact a i hi
  ·rw[<-pr (by decide)];exact z 0 (by decide)
  ·rw[<-lt (by decide)];exact z 1 (by decide)
  ·rw[<-po hi,show 10+i=8+(2+i)by omega];exact z (2+i) (by omega)
 ·have k:=Kq k;have f:=Kq f;have n:=inv n;have e8:=inv e8;have z:=zsv z
  have a:(aY 1).val (aW pre els post)=true:=bit (j:=1) rfl (Kq a)
  rw[pr (by decide)]at k n f e8
  refine .branch k ?_ f n e8 (nil0 ?_) λi hi=>?_
  ·have h0:(aY 0).val (((aW pre els post).drop 1).take 5)=(aY 1).val (aW pre els post):=(wG (aY 0) (by decide)).trans rfl
   have h1:((aW pre els post).drop 1).take 5=(pre.drop 1).take 5:=by
    unfold aW
    rw[List.drop_append_of_le_length (by rw[ji hj];decide),List.take_append_of_le_length (by rw[agE,ji hj];decide)]
   rw[<-h1,h0]
   exact a
  ·rw[<-lt (by decide)];exact z 0 (by decide)
  ·rw[<-po hi,show 10+i=9+(1+i)by omega];exact z (1+i) (by omega)
 ·have z:=zsv z
  refine .last (k.imp (λk=>by have k:=Kq k;rwa[pr (by decide)]at k) (λk=>by have k:=Kq k;rwa[pr (by decide)]at k)) (λi hi=>?_) (nil0 ?_) λi hi=>?_
  ·rw[<-pr (by omega)];exact z i (by omega)
  ·rw[<-lt (by decide)];exact z 8 (by decide)
  ·rw[<-po hi,show 10+i=1+(9+i)by omega];exact z (9+i) (by omega)
 ·have k:=Kq k;have a:=zsv a;have f:=inv f;have n:=inv n;have e8:=Kq e8
  have l:ah (aW pre els post++(kV pre els post).map (Value.int .i64)) 9<9:=by simpa[E.val]using l
  have d:(dX 10).val (aW pre els post)=true:=bit (j:=2) rfl (Kq d)
  have o:(els.all λel=>(aY 0).val el)=true:=bit (j:=0) rfl (Kq o)
  rw[pr (by decide)]at k f n e8
  rw[lt (by decide),ln]at l
  refine .call k (λi hi=>?_) f n e8 (by omega) ?_ o
  ·rw[<-pr (by omega)];exact a i hi
  ·have h0:(dX 0).val (((aW pre els post).drop 10).take 3)=(dX 10).val (aW pre els post):=a1d
   have h1:((aW pre els post).drop 10).take 3=post:=by
    unfold aW
    rw[List.drop_append,List.drop_of_length_le (by rw[ji hj];decide),ji hj]
    show((Value.int .i64 els.length::post).drop 1).take 3=post
    rw[ahj,ahl,agQ (by rw[a0C hj];decide)]
   rw[<-h1,h0]
   exact d
theorem acQ (i:Nat)(h:i<9){k:Kd}(hk:qM[i]? =some k):∃x,pre[i]? =some x/\k.ok x:=by
 have:=au.nth hj.pre (n:=i) (x:=k) (by rw[aI];exact hk)
 exact this
end
section
variable {w:World} {v:Value} {pre:List Value} {sv:Value} {post:List Value} {els:List (List Value)} (hj:jd w v pre sv post els)
include hj
section
variable {b:Base} (r3:b.rho 3=ah pre 3) (r10:b.rho 10=ah post 0)
include r3 r10
end
theorem Lf.Holds.xk {L:Lf}{rho:Nat->Int}{sig:Nat->List UInt8}(h:L.Holds rho sig){i:Nat}{c:Int}(e:rho i=c):(xk L i c).Holds rho sig:=(h.hi (i:=i) (c:=c) (by omega)).lo (i:=i) (c:=c) (by omega)
end
section
variable {w:World} {v:Value} {pre:List Value} {sv:Value} {post:List Value} {els:List (List Value)} (hj:jd w v pre sv post els)
include hj
end
theorem cells_one (L:Lf):((([.g vT]:List A).map L.nA).all A.vW)=true:=by
 show((vT.map L.nS).all S.vW&&true)=true
 rw[afg]
 have h1:=mQ L qM 0 rfl
 have h2:=mQ L kW 10 rfl
 have up:∀{l:List S},l.all S.one=true->l.all S.vW=true:=λ{l} h=>aeV.2 λx hx=>by
  have:=aeV.1 h x hx
  cases x<;>first |exact this|rfl
 unfold vT
 rw[afX,afr,agi,afz,up h1,up h2]
 rfl
def imp (a b:E):E:=.or (.not a) b
def isE (i:Nat)(c:Int):E:=.zero [(i,c)]
def ands:List E->E
 |[]=>.zero []
 |[e]=>e
 |e::r=>.and e (ands r)
def EI:E:=.or (.and (.or (isE 0 1) (isE 0 2)) (isE 1 0)) (ands [.not (.lt 0 3),.lt 0 6,.or (isE 1 1) (isE 1 2)])
def qm (t:List Value):Bool:=EI.num (ah t)
def QI:Tabs:=⟨[],[(0,.c 0,CW)],[]⟩
theorem a8p {e:Env}{v:Value}{sz k n:Nat}{els:List (List Value)}{el:List Value}{cs:List S}(h:bT e.w v sz els)(hl:e.b.lst k=⟨v,els⟩)(he:els[n]? =some el)(hs:cs.length=sz)(hc:au (λx v=>∀r,@VS e.b r x v) cs el):
  @bQ e.b ⟨[],[(k,.c n,cs)],[]⟩:=by
 refine @bQ.mk e.b _ (λ_ _ h=>(by cases h)) (λl m ds hh=>?_) (λ_ _ _ h=>(by cases h))
 have hh:(bif Nat.beq k l&&(N.c n).eqv m then some cs else none)=some ds:=hh
 cases hb:(Nat.beq k l&&(N.c n).eqv m)<;>rw[hb]at hh<;>cases hh
 simp only[aeI]at hb
 rw[<-aeX hb.1,<-N.y9 hb.2]
 exact h.el (b:=e.b) (i:=.c n) rfl rfl hl (n:=n) rfl he hs hc
theorem XM {w:World}{v:Value}{D:FnD}(h:aZ w v D)(q:At)(hq:q.t=0)(hl:0<D.ls.length)(more:List Int):@bQ (fnB w D q more) QI:=by
 have:=KO h (q:=q) (by omega) more
 rw[hq]at this
 exact a8p (e:=fnE w D q more) h.locals rfl (n:=0) (TD h hl).2 rfl this
end Am
namespace head
open Go.RowKit Am
def guard (D:FnD):Bool:=decide (0<D.ls.length)&&(decide (0<=D.p)&&(decide (D.p<=8)&&decide (D.p<D.ls.length)))
def Qw (D:FnD):Bool:=!decide (ah (D.typ 0) 1=0)
def ny (D:FnD):Bool:=guard D&&(D.ls.all qm&&!Qw D)
def f:FuncId:=160
def F:Func:=Tryz.f160
def code:Code:=dZ F 0
def hd:St:=⟨iP F.ntmps [(1,.ptr 0 0),(30,.rv 0),(31,.xi .i64 2),(32,.xi .i64 58)],⟨[(0,⟨bK,true⟩)],1⟩⟩
def sN:St:=⟨iP F.ntmps [(1,.ptr 0 0)],⟨[(0,⟨bK,true⟩)],1⟩⟩
def sR:St:=⟨iP F.ntmps [(2,.bool false)],⟨[],1⟩⟩
def hTy:HT:=.of [⟨false,62,1⟩,⟨false,61,2⟩,⟨false,61,3⟩,⟨false,61,1⟩,⟨false,62,2⟩,⟨false,62,3⟩,⟨false,61,4⟩,⟨false,61,5⟩,⟨false,61,6⟩]
def okN:E:=EI.ren (61+·)
def test (tb:Tabs)(giv:List (E×Bool))(us:List Upd)(x:X)(s1:St):Lf->Bool:=dQ (dG gU tb bg) f dW giv us ⟨4,0,3⟩ code hd x s1
def L1:Lf:=(Lf.of (eH++[])).pin 60 1
def L3:Lf:=(Lf.of (eH++[])).pin 60 0
theorem step:aG (test (cu.app O0) [(okN,true)] [isU (.xi .i64 58) (.xi .i64 59)] .normal hd) hTy L1=true:=by kernel_rfl
theorem bad:aG (test (cu.app O0) [(okN,false)] [] .ret sR) hTy L1=true:=by kernel_rfl
theorem stop:aG (test cu [] [] (.exit 0) sN) .leaf L3=true:=by kernel_rfl
def th0:Th:=[(.xi .i64 58,.int .i64 0)]
def row (x:X)(s1:St):Loops:=jh 5 ⟨4,0,3⟩ th0 hd x s1
def guardE:E:=ands [.not (.lt 2 1),.not (.lt 0 0),.lt 0 9,isE 76 1]
def LG:Lf:=Lf.of (eH++[])
def LS:Lf:=((((Lf.of (eH++[])).lo 2 1).lo 0 0).hi 0 8).pin 76 1
theorem aax:aG (lu (dG gU cu bg) f dW [(guardE,false)] [] (λ_=>V.s (.bool false)) [.g bK]) (.of [⟨false,2,1⟩,⟨false,0,0⟩,⟨false,0,9⟩,⟨false,76,1⟩]) LG=true:=by kernel_rfl
theorem a8j:aG (lu (dG gU cu (λ_=>dV [(f,row .ret sR)])) f dW [] [] (λ_=>V.s (.bool false)) [.g bK]) .leaf LS=true:=by kernel_rfl
theorem a4K:aG (lu (dG gU (cu.app QI) (λ_=>dV [(f,row (.exit 0) sN)])) f dW [(okN,true)] [isE 62 0] (λbs=>V.s (.bool (bs.headD false))) [.g bK]) hTy LS=true:=by kernel_rfl
theorem tag:fU (F.body.getD .skip) 0 5=true:=by kernel_rfl
section
variable {w:World} {v:Value} {D:FnD} (h:aZ w v D)
include h
theorem start (q:At)(hq:Fits D q):(Lf.of (eH++[])).Holds (aA (aH D q ([]++[]))) (λ_=>[]):=lC h hq (iv:=[]) (m1:=[]) (m2:=[]) trivial _
theorem turn {tb:Tabs}{giv:List (E×Bool)}{us:List Upd}{s1:St}{x:X}{hs:HT}{L:Lf}{q q':At}(ht:@bQ (fnB w D q []) tb)(hL:L.Holds (aA (aH D q [])) (λ_=>[]))(hg:∀p∈giv,p.1.num (aA (aH D q []))=p.2)(hus:∀u∈us,iQ (fnB w D q []) (fnB w D q' []) u)(hnx:s1.h.next=1)
  (hrun:aG (test tb giv us x s1) hs L=true):gY Tryz.prog (fnB w D q []) (fnB w D q' []) code hd x s1:=by
 refine⟨λr B a w1 hr=>?_⟩
 exact En (bC ht) (bJ q q' [] []) hnx.symm hL (aK D q []) hg hus (λK ok=>OG K ok code) hrun hr
theorem aa7 (hl:D.ls.length<=1000){b:Bool}(hb:D.ls.all qm=b)(K:Know)(ok:aC K (fnB w D (atT 0) []).rho (fnB w D (atT 0) []).sig):
  @aO ((fnB w D (atT 0) []).aF K ok) Tryz.prog (row (if b then .exit 0 else .ret) (if b then sN else sR)) code:=by
 have hin:∀k,k<D.ls.length->L1.Holds (aA (aH D (atT k) [])) (λ_=>[]):=λk hk=>(start h (atT k) (Ib (by omega))).pin (i:=60) (c:=1) (show b2i (decide ((k:Int)<D.ls.length))=1 from(dh _).2 (by omega))
 have htb:∀k,k<D.ls.length->@bQ (fnB w D (atT k) []) (cu.app O0):=λk hk=>@aX (fnB w D (atT k) []) cu O0 (aS h _ _) (Wx h (q:=atT k) hk _)
 have hok:∀k b,qm (D.typ k)=b->∀p∈[(okN,b)],p.1.num (aA (aH D (atT k) []))=p.2:=λk b e p hp=>by
  obtain rfl:=aeR.1 hp
  exact(FX (atT k) [] (e:=EI) rfl).trans e
 have hstep:∀k,k<D.ls.length->qm (D.typ k)=true->gY Tryz.prog (fnB w D (atT k) []) (fnB w D (atT (k+1)) []) code hd .normal hd:=λk hk e=>by
  refine turn h (htb k hk) (hin k hk) (hok k true e) (λu hu=>?_) rfl step
  obtain rfl:=aeR.1 hu
  exact dM λr v hv=>hv
 have hend:gY Tryz.prog (fnB w D (atT D.ls.length) []) (fnB w D (atT 0) []) code hd (.exit 0) sN:=
  turn h (aS h _ _) (L:=L3) ((start h (atT D.ls.length) (Ib (by omega))).pin (i:=60) (c:=0) (show b2i (decide ((D.ls.length:Int)<D.ls.length))=0 by rw[af2 (by omega)];rfl)) (λp hp=>by cases hp) (λu hu=>by cases hu) rfl stop
 have hth:Th.ok (fnB w D (atT 0) []) (fnB w D (atT 0) []) th0:=a3m λr v hv=>hv
 cases b with
 |true=>
  have hall:=(iW D.ls [] qm).2 hb
  exact @yR _ _ (λk=>fnB w D (atT k) []) code _ _ hd _ _ (λe=>by cases e) D.ls.length (bJ _ _ [] []) hth (λk hk=>hstep k hk (hall k hk)) hend 5 K ok
 |false=>
  rcases jU (λi=>qm (D.typ i)) D.ls.length with hall|⟨N,hN,h0,hn⟩
  ·rw[(iW D.ls [] qm).1 hall]at hb
   cases hb
  ·exact @yR _ _ (λk=>fnB w D (atT k) []) code _ _ hd _ _ (λe=>by cases e) N (bJ _ _ [] []) hth (λk hk=>hstep k (by omega) (h0 k hk)) (turn h (htb N hN) (hin N hN) (hok N false hn) (λu hu=>by cases hu) rfl bad) 5 K ok
theorem Eb (q:At):guardE.num (aA (aH D q []))=guard D:=by
 show((!decide ((D.ls.length:Int)<1))&&((!decide (D.p<0))&&(decide (D.p<9)&&(decide (b2i (decide (D.p<D.ls.length))=1)&&true))))=_
 unfold guard
 rw[afg,afG.2 (dh (D.p<D.ls.length)),<-ahq,<-ahq]
 congr 1
 ·exact afG.2 (by omega)
 congr 1
 ·exact afG.2 (by omega)
 congr 1
 exact afG.2 (by omega)
theorem a2K (hl:D.ls.length<=1000):bM f [v] w (.bool (ny D)):=by
 have hst:=start h (atT 0) (Ib (by omega))
 have hval:au (@VA (fnB w D (atT 0) []) r0) [.g bK] [v]:=⟨wF h (atT 0) [] r0,trivial⟩
 have key:∀{R:Rig} {L0:Lf} {hs:HT} {giv:List (E×Bool)} {es:List E} {g:List Bool->V} {b:Bool},jJ Tryz.prog R (fnB w D (atT 0) [])->L0.Holds (aA (aH D (atT 0) [])) (λ_=>[])->(∀p∈giv,p.1.num (aA (aH D (atT 0) []))=p.2)->
   g (es.map (E.num (aA (aH D (atT 0) []))))=V.s (.bool b)->aG (lu R f dW giv es g [.g bK]) hs L0=true->bM f [v] w (.bool b):=λ{R L0 hs giv es g b} hR hL hg e hrun=>by
  have:=jI (b:=fnB w D (atT 0) []) (w:=w) (aeM _) (λ_ _=>rfl) hR hL (aK D _ _) hg hval hrun
  rw[show(fnB w D (atT 0) []).rho=aA (aH D (atT 0) [])from rfl,e]at this
  exact bM.of (b:=fnB w D (atT 0) []) (v:=V.s (.bool b)) (λr x hx=>hx) this
 cases hg:guard D with
 |false=>
  rw[show ny D=false by unfold ny;rw[hg];rfl]
  refine key (bC (aS h _ _)) hst (λp hp=>?_) rfl aax
  obtain rfl:=aeR.1 hp
  exact(Eb h _).trans hg
 |true=>
  have hg':=hg
  unfold guard at hg'
  simp only[aeI,af6]at hg'
  obtain⟨g1,g2,g3,g4⟩:=hg'
  have hLS:LS.Holds (aA (aH D (atT 0) [])) (λ_=>[]):=(((hst.lo (i:=2) (c:=1) (show(1:Int)<=(D.ls.length:Int)by omega)).lo (i:=0) (c:=0) g2).hi (i:=0) (c:=8) g3).pin (i:=76) (c:=1) ((dh _).2 g4)
  have hrow:=λ{b:Bool} (hb:D.ls.all qm=b)=>one_row (bo:=fnB w D (atT 0) []) (F:=F) (row:=row (if b then .exit 0 else .ret) (if b then sN else sR)) Tryz.func160 λK ok c hc=>iH tag (aa7 h hl hb K ok) hc
  cases hb:D.ls.all qm with
  |false=>
   rw[show ny D=false by unfold ny;rw[hg,hb];rfl]
   exact key (fV jA (aS h _ _) (hrow hb)) hLS (λp hp=>by cases hp) rfl a8j
  |true=>
   rw[show ny D=!Qw D by unfold ny;rw[hg,hb];rfl]
   refine key (fV jA (@aX (fnB w D (atT 0) []) cu QI (aS h _ _) (XM h (atT 0) rfl g1 [])) (hrow hb)) hLS (λp hp=>?_) ?_ a4K
   ·obtain rfl:=aeR.1 hp
    exact(FX (atT 0) [] (e:=EI) rfl).trans ((iW D.ls [] qm).2 hb 0 g1)
   ·show V.s (.bool (decide (ah (D.typ 0) 1=0)&&true))=_
    unfold Qw
    rw[afg,Bool.not_not]
end
end head
namespace Am
open Go.RowKit
def stV (nL:Int)(st:List Value)(i:Nat):Int:=if i<26 then ah st i else[nG (ah st 25) nL,nG (ah st 1) nL,nG (ah st 9) nL,nG (ah st 14) nL,nG (ah st 17) nL,nG (ah st 22) nL].getD (i-26) 0
def QZ:E:=ands [imp (isE 0 3) (isE 26 1),imp (.or (isE 0 2) (isE 0 4)) (.or (isE 20 1) (isE 31 1)),
 imp (isE 0 1) (ands [isE 27 1,imp (.or (isE 4 4) (isE 4 5)) (isE 30 1),imp (.not (.or (isE 4 4) (isE 4 5))) (.or (isE 7 1) (isE 28 1)),imp (.or (isE 4 2) (isE 4 3)) (.or (isE 12 1) (isE 29 1))])]
def oV (nL:Int)(st:List Value):Bool:=QZ.num (stV nL st)
def toS (i:Nat):Nat:=if i<26 then 24+i else 37+i
theorem a1p {D:FnD}(q:At)(more:List Int):(QZ.ren toS).num (aA (aH D q more))=oV D.ls.length (D.stm q.i q.k):=by
 refine E.jD (n:=32) rfl λj hj=>?_
 by_cases h:j<26
 ·unfold toS stV
  rw[afm h,afm h]
  have e:aH D q more=(zl D++(xsB D q++[(q.k:Int),(q.k:Int)+1,nG q.k (D.blk q.i).st.length]))++(rQ 26 (D.stm q.i q.k)++(xsO D q++(xsT D q++(xsC D q++more)))):=by simp[aH,xsS,Il]
  rw[e]
  exact(kR (n:=24) rfl).trans (yA h _)
 ·have:j=26\/j=27\/j=28\/j=29\/j=30\/j=31:=by omega
  rcases this with rfl|rfl|rfl|rfl|rfl|rfl<;>rfl
def tK (nL:Int)(op:List Value):Bool:=decide (ah op 0=1)||decide (ah op 2<nL)
def YU:E:=dK.ren (24+·)
theorem FW {D:FnD}(q:At)(more:List Int):YU.num (aA (aH D q more))=dK.val (D.stm q.i q.k):=(yY q more (e:=dK) (by decide)).trans (E.iD _ _).symm
section
variable {w:World} {v:Value} {D:FnD} (h:aZ w v D)
include h
theorem Xd {F:FuncId}{val:Bool->Value}{mk:Bool->V}(hF:dJ Tryz.prog F)(ht:Tests Tryz.prog yD F kSt dK val)(hu:∀(b0:Base) r b,@VV b0 r (mk b) (val b)){q:At}(hi:q.i<D.bs.length)(hk:q.k<(D.blk q.i).st.length){b:Bool}(hb:dK.val (D.stm q.i q.k)=b)(m:List Int)
  (K:Know) (ok:aC K (fnB w D q m).rho (fnB w D q m).sig):@Sound ((fnB w D q m).aF K ok) Tryz.prog (nJ F [.g lV] (mk b)):=by
 have hc:=EC h hi hk m
 refine @fM ((fnB w D q m).aF K ok) _ F hF _ _ (by rfl) [.agg (D.stm q.i q.k).toArray] ⟨⟨_,rfl,?_⟩,trivial⟩ (val b) (λr=>hu _ r b) λw' _=>?_
 ·refine fZ hc.len λi x u hx hu=>?_
  obtain⟨u',hu',e⟩:=au.nth hc (n:=i) (x:=x) (by rw[aI];exact hx)
  rw[hu]at hu'
  cases hu'
  exact e r0
 ·rw[<-hb]
  exact ht (D.stm q.i q.k) (Ah h hi hk).1 w' trivial
theorem sU {i:Nat}(hi:i<D.bs.length):jd w (.agg ((D.blk i).pre++(D.blk i).a::(D.blk i).post).toArray) (D.blk i).pre (D.blk i).a (D.blk i).post (D.blk i).ops:=by
 have b:=(xI h hi).1
 exact⟨rfl,b.rJ,b.mZ,⟨b.opl.sl,b.opl.most,b.opl.at_,λi el he=>b.okd el (aeY he),b.opl.cap⟩⟩
def xJ (b:bU):Bool:=okJ b.pre b.ops b.post
theorem OY {F:FuncId}{val:Bool->Value}{mk:Bool->V}(hF:dJ Tryz.prog F)(ht:NT F val)(hu:∀(b0:Base) r b,@VV b0 r (mk b) (val b)){q:At}(hi:q.i<D.bs.length){b:Bool}(hb:xJ (D.blk q.i)=b)(m:List Int)
  (K:Know) (ok:aC K (fnB w D q m).rho (fnB w D q m).sig):@Sound ((fnB w D q m).aF K ok) Tryz.prog (nJ F [.g nT] (mk b)):=by
 have hc:=Dw h hi q rfl m
 refine @fM ((fnB w D q m).aF K ok) _ F hF _ _ (by rfl) [.agg ((D.blk q.i).pre++(D.blk q.i).a::(D.blk q.i).post).toArray] ⟨⟨_,rfl,?_⟩,trivial⟩ (val b) (λr=>hu _ r b) λw' hw=>?_
 ·refine fZ hc.len λi x u hx hu=>?_
  obtain⟨u',hu',e⟩:=au.nth hc (n:=i) (x:=x) (by rw[aI];exact hx)
  rw[hu]at hu'
  cases hu'
  exact e r0
 ·rw[<-hb]
  exact ht w' _ _ _ _ _ (sU (h.frz hw) hi)
theorem BI {F:FuncId}{u:Value}{mv:V}(hF:dJ Tryz.prog F)(hu:∀(b0:Base) r,@VV b0 r mv u)(q:At)(m:List Int)(ha:∀w',aZ w' v D->bM F [v] w' u)
  (K:Know) (ok:aC K (fnB w D q m).rho (fnB w D q m).sig):@Sound ((fnB w D q m).aF K ok) Tryz.prog (nJ F [.g bK] mv):=
 @fM ((fnB w D q m).aF K ok) _ F hF _ _ (by rfl) [v] ⟨wF h q m r0,trivial⟩ u (λr=>hu _ r) λw' hw=>ha w' (h.frz hw)
end
theorem vm8 (b0:Base)(r:Ren)(b:Bool):@VV b0 r (m8 b) (v8 b):=by cases b<;>rfl
theorem vmB (b0:Base)(r:Ren)(b:Bool):@VV b0 r (mB b) (.bool b):=rfl
end Am
namespace made
open Go.RowKit Am
def f:FuncId:=105
def F:Func:=Tryz.f105
def gJ:Code:=dZ F 0
def bD:Code:=dZ F 1
def near:S:=.fn 161 [(1,0),(0,0)]
def R:S:=.xe [(77,1)]
def Lr:List (Nat×S):=[(1,.ptr 0 0),(3,.ptr 1 0),(4,near),(23,.rv 1),(24,.xi .i64 3)]
def xP:List (Nat×S):=Lr++[(25,.xi .i64 4),(6,.ptr 2 0)]
def hpO (r:S):Hp:=[(1,⟨[r],true⟩),(0,⟨bK,true⟩)]
def hpI (r:S):Hp:=(2,⟨lU,true⟩)::hpO r
def hdO:St:=⟨iP F.ntmps (Lr++[(25,.xi .i64 4)]),⟨hpO R,2⟩⟩
def hdI:St:=⟨iP F.ntmps (xP++[(30,.rv 3),(31,.xi .i64 7),(32,.xi .i64 21)]),⟨hpI R,3⟩⟩
def sNO:St:=⟨iP F.ntmps Lr,⟨hpO (.xe [(78,1)]),2⟩⟩
def sNI:St:=⟨iP F.ntmps xP,⟨hpI (.xe [(78,1)]),3⟩⟩
def sRO:St:=⟨iP F.ntmps [(2,.bool false)],⟨[],2⟩⟩
def sRI:St:=⟨iP F.ntmps [(2,.bool false)],⟨[],3⟩⟩
def opT (k d:Nat)(t:HT):HT:=.by k 1 (.both d 1 t) (.by k 2 t (.by k 3 (.both d 1 t) (.by k 4 (.both d 1 t) (.both d 1 t))))
def ae7:HT:=.on 28 1 .leaf (.on 28 2 (opT 31 65 .leaf) (.on 28 3 (opT 31 65 (opT 36 66 .leaf)) (.on 28 4 (opT 31 65 (opT 36 66 .leaf)) (.by 28 6 (.by 28 5 (.both 67 1 .leaf) (.both 67 1 .leaf)) .leaf))))
def a6g:HT:=.on 24 1 .leaf (.on 24 2 (.both 64 1 ae7) (.on 24 3 (opT 44 68 .leaf) (.on 24 4 (.both 63 1 .leaf) (.by 24 5 (opT 44 68 .leaf) .leaf))))
def hSt:HT:=.on 77 1 a6g a6g
def Fe:E:=.and (isE 77 1) (QZ.ren toS)
def Ee (b:Bool):Know->aU:=λ_=>nJ 75 [.g lV] (m8 b)
def L1:Lf:=((Lf.of (eH++[ivB])).pin 6 1).pin 23 1
def L3:Lf:=((Lf.of (eH++[ivB])).pin 6 1).pin 23 0
def tbI:Tabs:=cu.app (iJ.app Ym)
def stepT:Lf->Bool:=dQ (dG (Ee true) tbI bg) f dW [(YU,true)] [isU (.xi .i64 21) (.xi .i64 22),Y5 R Fe,L9 77 Fe 77] ⟨21,0,5⟩ bD hdI .normal hdI
theorem a3Y {test:Lf->Bool}{i:Nat}{c:Int}{a b:HT}{f:Bool}{L:Lf}(h1:below L i c=false)(h2:above L i c=false)(ha:aG test a (L.hi i (c-1))=true)(hb:aG test b (L.lo i c)=true):aG test (.cut f i c a b) L=true:=by
 show(bif below L i c then aG test a L else bif above L i c then aG test b L else(bif f then false else test L)||(aG test a (L.hi i (c-1))&&aG test b (L.lo i c)))=true
 rw[h1,h2,ha,hb]
 simp
theorem ab7:aG stepT a6g (L1.hi 77 0)=true:=by kernel_rfl
theorem a9T:aG stepT a6g (L1.lo 77 1)=true:=by kernel_rfl
theorem lq:aG (dQ (dG (Ee true) tbI bg) f dW [(YU,true)] [isU (.xi .i64 21) (.xi .i64 22),Y5 R Fe,L9 77 Fe 77] ⟨21,0,5⟩ bD hdI .normal hdI) hSt L1=true:=a3Y (test:=stepT) (by kernel_rfl) (by kernel_rfl) ab7 a9T
theorem aez:aG (dQ (dG (Ee false) tbI bg) f dW [] [] ⟨21,0,5⟩ bD hdI .ret sRI) .leaf L1=true:=by kernel_rfl
theorem JB:aG (dQ (dG gU (cu.app iJ) bg) f dW [] [isU (.xe [(78,1)]) R] ⟨21,0,5⟩ bD hdI (.exit 2) sNI) .leaf L3=true:=by kernel_rfl
def fO:FuncId:=199
def FO:Func:=Tryz.f199
def iR:Code:=dZ FO 0
def hpA (r:S):Hp:=(4,⟨[.xi .i64 15],true⟩)::hpO r
def hdA:St:=⟨iP FO.ntmps [(1,.bool true),(2,near),(8,.rv 4),(9,.xi .i64 17),(10,.xi .i64 50)],⟨hpA R,7⟩⟩
def sNA:St:=⟨iP FO.ntmps [],⟨hpA (.xe [(79,1)]),7⟩⟩
def hOp:HT:=.on 77 1 (opT 53 71 .leaf) (opT 53 71 .leaf)
def a3X:E:=.and (isE 77 1) (.or (isE 53 1) (isE 71 1))
def L5:Lf:=((Lf.of (eH++[ivB])).pin 6 1).pin 52 1
def L6:Lf:=((Lf.of (eH++[ivB])).pin 6 1).pin 52 0
theorem CJ:aG (dQ (dG gU (cu.app (iJ.app a2s)) bg) fO dW [] [isU (.xi .i64 50) (.xi .i64 51),Y5 R a3X,L9 77 a3X 77] ⟨21,0,5⟩ iR hdA .normal hdA) hOp L5=true:=by kernel_rfl
theorem JK:aG (dQ (dG gU (cu.app iJ) bg) fO dW [] [isU (.xe [(79,1)]) R] ⟨21,0,5⟩ iR hdA (.exit 0) sNA) .leaf L6=true:=by kernel_rfl
def usI:List Upd:=[isU (.xi .i64 21) (.int .i64 0),isU R R]
def usA:List Upd:=[isU (.xi .i64 50) (.int .i64 0),⟨R,[isE 78 1],λbs=>bif bs.headD false then .xe [(70,1)]else .bool false⟩,Y5 R (.and (isE 78 1) (isE 70 1))]
def pY (x:X)(s1:St)(K:Know):Loops:=jh 8 ⟨21,0,5⟩ (@thU K usI) hdI x s1
def rowA (K:Know):Loops:=jh 2 ⟨21,0,5⟩ (@thU K usA) hdA (.exit 0) sNA
def XU (K:Know):FuncId->Loops:=dV [(f,pY (.exit 2) sNI K),(fO,rowA K)]
def Lp (K:Know):FuncId->Loops:=dV [(f,pY .ret sRI K)]
def aar (b:Bool):Know->aU:=λ_=>nJ 80 [.g nT] (m8 b)
def U9:E:=ands [imp (isE 8 2) (.and (isE 78 1) (.or (isE 9 1) (isE 69 1))),imp (isE 8 4) (isE 79 1),imp (.and (.not (isE 8 2)) (.not (isE 8 4))) (isE 78 1),imp (.not (.or (isE 8 3) (isE 8 5))) (isE 72 1),imp (isE 8 2) (.or (isE 74 1) (isE 73 1))]
def b1 (i:Nat)(t:HT):HT:=.on i 1 t t
def a90:HT:=b1 78 (b1 72 .leaf)
def hJm:HT:=.on 8 2 a90 (.on 8 3 (b1 78 (.by 9 1 (.both 69 1 (b1 72 (b1 74 (b1 73 .leaf)))) (.by 9 2 (b1 72 (b1 74 (b1 73 .leaf))) (.both 69 1 (b1 72 (b1 74 (b1 73 .leaf))))))) (.on 8 4 (b1 78 .leaf) (.on 8 5 (b1 78 (b1 70 (b1 79 (b1 72 .leaf)))) (.on 8 6 (b1 78 .leaf) a90))))
def L7:Lf:=(Lf.of (eH++[ivB,ivB,ivB])).pin 6 1
def L8:Lf:=(Lf.of (eH++[ivB])).pin 6 0
def tbO:Tabs:=cu.app iJ
theorem IZ:aG (dQ (dG (aar true) tbO XU) f dW [] [isU (.xi .i64 4) (.xi .i64 5),Y5 R U9,L9 77 U9 78,L9 77 U9 79] ⟨4,0,3⟩ gJ hdO .normal hdO) hJm L7=true:=by kernel_rfl
theorem acG:aG (dQ (dG gU tbO Lp) f dW [] [] ⟨4,0,3⟩ gJ hdO .ret sRO) .leaf L7=true:=by kernel_rfl
theorem abG:aG (dQ (dG (aar false) tbO λK=>dV [(f,pY (.exit 2) sNI K)]) f dW [] [] ⟨4,0,3⟩ gJ hdO .ret sRO) .leaf L7=true:=by kernel_rfl
theorem Jq:aG (dQ (dG gU cu bg) f dW [] [isU (.xe [(78,1)]) R] ⟨4,0,3⟩ gJ hdO (.exit 0) sNO) .leaf L8=true:=by kernel_rfl
def zo (r:Bool)(x:X)(s1:St)(K:Know):Loops:=jh 5 ⟨4,0,3⟩ (@thU K [isU (.xi .i64 4) (.int .i64 0),isU R (.bool r)]) hdO x s1
def a6P (b:Bool):Know->aU:=λ_=>nJ 160 [.g bK] (mB b)
def LM:Lf:=Lf.of (eH++[ivB,ivB])
def runM (hb r:Bool)(x:X)(s1:St)(es:List E)(g:List Bool->V):Lf->Bool:=lu (dG (a6P hb) cu λK=>dV [(f,zo r x s1 K)]) f dW [] es g [.g bK]
theorem acC:aG (runM false false (.exit 0) sNO [] λ_=>V.s (.xe [(78,1)])) (.of [⟨false,78,1⟩]) LM=true:=by kernel_rfl
theorem aej:aG (runM false false .ret sRO [] λ_=>V.s (.bool false)) .leaf LM=true:=by kernel_rfl
theorem good1:aG (runM true true (.exit 0) sNO [] λ_=>V.s (.xe [(78,1)])) (.of [⟨false,78,1⟩]) (LM.lo 3 1)=true:=by kernel_rfl
theorem ae1:aG (runM true true .ret sRO [] λ_=>V.s (.bool false)) .leaf (LM.lo 3 1)=true:=by kernel_rfl
theorem adD:aG (runM true false (.exit 0) sNO [] λ_=>V.s (.xe [(78,1)])) (.of [⟨false,78,1⟩]) (LM.hi 3 0)=true:=by kernel_rfl
theorem aew:aG (runM true false .ret sRO [] λ_=>V.s (.bool false)) .leaf (LM.hi 3 0)=true:=by kernel_rfl
theorem PU:fU (F.body.getD .skip) 0 5=true:=by kernel_rfl
theorem Nv:fU gJ 0 8=true:=by kernel_rfl
theorem OU:fU (FO.body.getD .skip) 0 2=true:=by kernel_rfl
