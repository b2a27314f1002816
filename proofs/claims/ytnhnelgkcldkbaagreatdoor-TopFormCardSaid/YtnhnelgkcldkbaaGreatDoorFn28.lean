/- What fnshape.Check and the reference's Check answer is the same. (No run of the program.) Great and Size. fnshape.Calls, as the machine runs it. -/
import Derived.Test.YtnhnelgkcldkbaaGreatDoorFn25
set_option linter.all false
set_option maxRecDepth 100000
noncomputable section
open List renaming range → aia
namespace Go.Proofs.YtnhnelgkcldkbaaGreatDoor
namespace refC
open Go.RowKit Am
open twos (Ct)
theorem IU {F:Nat->Int}{ls:List Int}{c:Nat}(hr:∀l∈ls,0<=l/\l<=15)(hF:∀j:Nat,1<=F j↔(j:Int)∈ls):far.uH F c=ls.any λl=>!decide (l<c):=by
 unfold far.uH
 rw[agM,agk,agk]
 constructor
 ·rintro⟨j,hj,e⟩
  simp only[aeI,af6,ag3,afB]at e
  exact⟨j,(hF j).1 (by omega),by rw[ag3,afB];omega⟩
 ·rintro⟨l,hl,e⟩
  rw[ag3,afB]at e
  have h:=hr l hl
  refine⟨l.toNat,afs.2 (by omega),?_⟩
  have hp:=(hF l.toNat).2 (by rw[show((l.toNat:Nat):Int)=l by omega];exact hl)
  simp only[aeI,af6,ag3,afB]
  omega
theorem OM {α:Type}{f:α->Bool}:∀l:List α,(0<=acc (λx=>b2i (f x)) l)/\(1<=acc (λx=>b2i (f x)) l↔∃x∈l,f x=true)
 |[]=>⟨agd _,by simp[acc]⟩
 |x::l=>by
  obtain⟨h1,h2⟩:=OM (f:=f) l
  show 0<=b2i (f x)+acc _ l/\(1<=b2i (f x)+acc _ l↔_)
  cases hx:f x with
  |true=>
   have:b2i true=1:=rfl
   exact⟨by omega,⟨λ_=>⟨x,by simp,hx⟩,λ_=>by omega⟩⟩
  |false=>
   have:b2i false=0:=rfl
   refine⟨by omega,⟨λh=>?_,λ⟨y,hy,e⟩=>?_⟩⟩
   ·obtain⟨y,hy,e⟩:=h2.1 (by omega)
    exact⟨y,by simp[hy],e⟩
   ·rcases aeQ.1 hy with rfl|hy
    ·rw[hx]at e;cases e
    ·have:=h2.2 ⟨y,hy,e⟩;omega
theorem a8c (ls:List Int)(j:Nat):1<=cnt ls j↔(j:Int)∈ls:=by
 unfold cnt
 rw[(OM (f:=λl:Int=>decide (l=(j:Int))) ls).2]
 constructor
 ·rintro⟨x,hx,e⟩
  rw[ag8]at e
  rwa[<-e]
 ·exact λh=>⟨_,h,afn rfl⟩
theorem all_congr {α:Type}{l:List α}{p q:α->Bool}(h:∀x∈l,p x=q x):l.all p=l.all q:=by
 induction l with
 |nil=>rfl
 |cons x l ih=>rw[afz,afz,h x (by simp),ih λy hy=>h y (by simp[hy])]
theorem aei:(aG (noT [(dK,true)]) .leaf (((Lf.of (ivU 26)).pin 0 1).hi 4 0)&&aG (noT [(dK,true)]) .leaf (((Lf.of (ivU 26)).pin 0 1).lo 4 6))=true:=by kernel_rfl
theorem a7Y {st:List Value}(h:au Kd.ok zk st)(hv:dK.val st=true)(h1:ah st 0=1):1<=ah st 4/\ah st 4<=5:=by
 have h0:(Lf.of (ivU 26)).Holds (ah st) (λ_=>[]):=zN h rfl
 have r:=aei
 rw[aeI]at r
 have hg:∀p∈[(dK,true)],p.1.num (ah st)=p.2:=λp hp=>by
  obtain rfl:=aeR.1 hp
  exact(E.iD _ _).symm.trans hv
 constructor
 ·apply afy;intro hc;exact cannot r.1 ((h0.pin (i:=0) (c:=1) h1).hi (i:=4) (c:=0) (by omega)) hg
 ·apply afy;intro hc;exact cannot r.2 ((h0.pin (i:=0) (c:=1) h1).lo (i:=4) (c:=6) (by omega)) hg
theorem a8f (nL:Int)(st:List Value):oV nL st=((!decide (ah st 0=3)||decide (ah st 25<nL))&&((!(decide (ah st 0=2)||decide (ah st 0=4))||(decide (ah st 20=1)||decide (ah st 22<nL)))&&
  (!decide (ah st 0=1)||(decide (ah st 1<nL)&&((!(decide (ah st 4=4)||decide (ah st 4=5))||decide (ah st 17<nL))&&((!!(decide (ah st 4=4)||decide (ah st 4=5))||(decide (ah st 7=1)||decide (ah st 9<nL)))&&(!(decide (ah st 4=2)||decide (ah st 4=3))||(decide (ah st 12=1)||decide (ah st 14<nL))))))))):=by
 have s:∀i,i<26->stV nL st i=ah st i:=λi hi=>by unfold stV;rw[afm hi]
 have s26:stV nL st 26=b2i (decide (ah st 25<nL)):=rfl
 have s27:stV nL st 27=b2i (decide (ah st 1<nL)):=rfl
 have s28:stV nL st 28=b2i (decide (ah st 9<nL)):=rfl
 have s29:stV nL st 29=b2i (decide (ah st 14<nL)):=rfl
 have s30:stV nL st 30=b2i (decide (ah st 17<nL)):=rfl
 have s31:stV nL st 31=b2i (decide (ah st 22<nL)):=rfl
 unfold oV
 simp only[QZ,ands,imp,isE,E.num,afz,agV,afg,s 0 (by decide),s 4 (by decide),s 7 (by decide),s 12 (by decide),s 20 (by decide),s26,s27,s28,s29,s30,s31,made.eG]
theorem a3t (st:List Value):twos.kU st=twos.jK [decide (ah st 0=3),(decide (ah st 0=2)||decide (ah st 0=4))&&!decide (ah st 20=1),decide (ah st 0=1),decide (ah st 0=1)&&(decide (ah st 4=4)||decide (ah st 4=5)),
  decide (ah st 0=1)&&(!(decide (ah st 4=4)||decide (ah st 4=5))&&!decide (ah st 7=1)),decide (ah st 0=1)&&(!(decide (ah st 4=1)||(decide (ah st 4=4)||decide (ah st 4=5)))&&!decide (ah st 12=1))]:=by
 unfold twos.kU
 simp only[twos.yh,afr,agj,ands,isE,E.num,afz,agV,afg]
theorem acX {st:List Value}(h:au Kd.ok zk st)(hv:dK.val st=true)(nL:Nat):(!far.uH (twos.tJ st) nL)=oV nL st:=by
 have rg:=λc hc=>Cm h hv (c:=c) hc
 have hl:∀l∈(twos.gK (twos.kU st)).map (ah st),0<=l/\l<=15:=λl hl=>by
  obtain⟨c,hc,rfl⟩:=afo.1 hl
  refine rg c ?_
  unfold twos.gK at hc
  split at hc<;>simp only[aeQ,aeZ,afj]at hc |- <;>omega
 rw[IU (F:=twos.tJ st) hl (λj=>a8c _ j),a8f,a3t]
 have kd:=a7Y h hv
 by_cases h1:ah st 0=1
 ·obtain⟨k1,k2⟩:=kd h1
  have h4:ah st 4=1\/ah st 4=2\/ah st 4=3\/ah st 4=4\/ah st 4=5:=by omega
  rcases h4 with h4|h4|h4|h4|h4<;>by_cases h7:ah st 7=1<;>by_cases h12:ah st 12=1<;>simp[h1,h4,h7,h12,twos.jK,twos.gK]
 ·by_cases h3:ah st 0=3
  ·simp[h3,twos.jK,twos.gK]
  ·by_cases h2:ah st 0=2
   ·by_cases h20:ah st 20=1<;>simp[h2,h20,twos.jK,twos.gK]
   ·by_cases h4:ah st 0=4
    ·by_cases h20:ah st 20=1<;>simp[h4,h20,twos.jK,twos.gK]
    ·simp[h1,h2,h3,h4,twos.jK,twos.gK]
theorem acY {w:World}{v:Value}{D:FnD}(h:aZ w v D){i:Nat}(hi:i<D.bs.length)(hok:xJ (D.blk i)=true):(!far.uH (occJump.pK (D.blk i)) D.ls.length&&block.a2H D.bs.length (D.blk i))=made.MH D.ls.length D.bs.length (D.blk i):=by
 have hj:=sU h hi
 obtain⟨p3,q0,jo⟩:=Bz hj hok
 obtain⟨_,_,m3⟩:=OE hj hok
 have ops:∀op∈(D.blk i).ops,0<=ah op 2/\ah op 2<=15:=λop hop=>by
  obtain⟨k,hk⟩:=afD hop
  have hl:=(aeU.1 hk).1
  obtain⟨o1,o2⟩:=Jc h hi hl
  obtain rfl:op=D.opd i k:=afE (hk.symm.trans o2)
  refine J7 o1 ?_
  rcases jo with e|e
  ·exact aeV.1 e _ hop
  ·omega
 generalize D.blk i=b at *
 unfold made.MH block.a2H
 by_cases h2:ah b.pre 0=2
 ·by_cases h1:ah b.pre 1=1
  ·have e:far.uH (occJump.pK b) D.ls.length=false:=by
    rw[IU (ls:=[]) (λl hl=>by cases hl) (λj=>by unfold occJump.pK;rw[afm h2,afm h1];simp)]
    rfl
   rw[e]
   simp[h2,h1]
  ·have e:far.uH (occJump.pK b) D.ls.length=!decide (ah b.pre 3<D.ls.length):=by
    rw[IU (ls:=[ah b.pre 3]) (λl hl=>by obtain rfl:=aeR.1 hl;exact p3) (λj=>by
     unfold occJump.pK
     rw[afm h2,afc h1,aeR]
     show 1<=(0:Int)+b2i (decide (ah b.pre 3=(j:Int)))↔_
     by_cases e:ah b.pre 3=(j:Int)
     ·rw[afn e];exact⟨λ_=>e.symm,λ_=>by decide⟩
     ·rw[af2 e];exact⟨λk=>absurd k (by decide),λk=>absurd k.symm e⟩)]
    simp
   rw[e]
   simp[h2,h1]
 ·by_cases h4:ah b.pre 0=4
  ·have e:far.uH (occJump.pK b) D.ls.length=(!decide (ah b.post 0<D.ls.length)||b.ops.any λop=>!decide (ah op 0=1)&&!decide (ah op 2<D.ls.length)):=by
    rw[IU (ls:=ah b.post 0::(b.ops.filter λop=>!decide (ah op 0=1)).map λop=>ah op 2) (λl hl=>by
      rcases aeQ.1 hl with rfl|hl
      ·exact q0
      ·obtain⟨op,hop,rfl⟩:=afo.1 hl
       exact ops op (ahe.1 hop).1) (λj=>by
     unfold occJump.pK
     rw[afc h2,afm h4]
     obtain⟨a1,a2⟩:=OM (f:=λop=>!decide (ah op 0=1)&&decide (ah op 2=(j:Int))) b.ops
     show 1<=acc (λop=>b2i (!decide (ah op 0=1)&&decide (ah op 2=(j:Int)))) b.ops+b2i (decide (ah b.post 0=(j:Int)))↔_
     by_cases e:ah b.post 0=(j:Int)
     ·rw[afn e]
      have:b2i true=1:=rfl
      exact⟨λ_=>by rw[e];simp,λ_=>by omega⟩
     ·rw[af2 e]
      have:b2i false=0:=rfl
      rw[show acc (λop=>b2i (!decide (ah op 0=1)&&decide (ah op 2=(j:Int)))) b.ops+b2i false=acc (λop=>b2i (!decide (ah op 0=1)&&decide (ah op 2=(j:Int)))) b.ops by omega,a2]
      constructor
      ·rintro⟨op,hop,e⟩
       rw[aeI,ag8]at e
       exact afd _ (afo.2 ⟨op,ahe.2 ⟨hop,e.1⟩,e.2⟩)
      ·intro hm
       rcases aeQ.1 hm with hm|hm
       ·exact absurd hm.symm e
       ·obtain⟨op,hop,e⟩:=afo.1 hm
        obtain⟨k1,k2⟩:=ahe.1 hop
        exact⟨op,k1,by rw[aeI,ag8];exact⟨k2,e⟩⟩)]
    rw[agz,List.any_map,List.any_filter]
    rfl
   rw[e]
   have eo:(b.ops.all (tK D.ls.length))=!(b.ops.any λop=>!decide (ah op 0=1)&&!decide (ah op 2<D.ls.length)):=by
    rw[List.not_any_eq_all_not]
    refine all_congr λop _=>?_
    unfold tK
    cases decide (ah op 0=1)<;>cases decide (ah op 2<D.ls.length)<;>rfl
   rw[eo]
   simp[h4]
  ·have e:far.uH (occJump.pK b) D.ls.length=false:=by
    rw[IU (ls:=[]) (λl hl=>by cases hl) (λj=>by unfold occJump.pK occJump.Hf;rw[afc h2,afc h4,m3 h4];simp[acc])]
    rfl
   rw[e]
   simp[h2,h4]
theorem a4q {w:World}{v:Value}{D:FnD}(h:aZ w v D){i:Nat}(hi:i<D.bs.length):block.okB D (D.blk i)=(made.okB (D.blk i)&&made.NC D.ls.length D.bs.length (D.blk i)):=by
 have e1:(D.blk i).st.all (block.okS D)=((D.blk i).st.all (λst=>dK.val st)&&(D.blk i).st.all (oV D.ls.length)):=by
  rw[agM,aeI,aeV,aeV,aeV]
  have key:∀st∈(D.blk i).st,dK.val st=true->(!far.uH (twos.tJ st) D.ls.length)=oV D.ls.length st:=λst hst hv=>by
   obtain⟨k,hk⟩:=afD hst
   have hl:=(aeU.1 hk).1
   obtain⟨o1,o2⟩:=Ah h hi hl
   obtain rfl:st=D.stm i k:=afE (hk.symm.trans o2)
   exact acX o1 hv _
  constructor
  ·intro ha
   have ha':∀st∈(D.blk i).st,dK.val st=true/\(!far.uH (twos.tJ st) D.ls.length)=true:=λst hst=>by
    have:=ha st hst
    unfold block.okS at this
    rwa[aeI]at this
   exact⟨λst hst=>(ha' st hst).1,λst hst=>(key st hst (ha' st hst).1)▸(ha' st hst).2⟩
  ·rintro⟨a,b⟩ st hst
   unfold block.okS
   rw[key st hst (a st hst),a st hst,b st hst]
   rfl
 unfold block.okB made.okB made.NC
 rw[e1]
 cases hv:xJ (D.blk i)with
 |false=>rw[agw,ahk,ahk,agw]
 |true=>
  rw[afY,afg,acY h hi hv,ahm]
theorem a5q {w:World}{v:Value}{D:FnD}(h:aZ w v D)(hm:many.jq D=false):madeR.vN D=made.kT D:=by
 have e:D.bs.all (block.okB D)=(D.bs.all made.okB&&D.bs.all (made.NC D.ls.length D.bs.length)):=by
  have key:∀b∈D.bs,block.okB D b=(made.okB b&&made.NC D.ls.length D.bs.length b):=λb hb=>by
   obtain⟨i,hi⟩:=afD hb
   have hl:=(aeU.1 hi).1
   have:D.blk i=b:=by unfold FnD.blk;rw[af8,hi];rfl
   rw[<-this]
   exact a4q h hl
  rw[all_congr key,agM,aeI,aeV,aeV,aeV]
  simp only[aeI]
  exact⟨λk=>⟨λb hb=>(k b hb).1,λb hb=>(k b hb).2⟩,λk b hb=>⟨k.1 b hb,k.2 b hb⟩⟩
 unfold madeR.vN made.kT head.ny madeR.guard head.guard
 rw[hm,e]
 cases decide (0<D.ls.length)<;>cases decide (0<D.bs.length)<;>cases decide (0<=D.p)<;>cases decide (D.p<=8)<;>cases decide (D.p<D.ls.length)<;>cases D.ls.all qm<;>cases head.Qw D<;>rfl
theorem aaO {w:World}{v:Value}{D:FnD}(h:aZ w v D):a5P D=check.iY D:=by
 unfold a5P check.iY
 cases hm:many.jq D with
 |true=>rfl
 |false=>
  rw[a5q h hm,show MV D=twos.sO D from all_congr λt _=>a8i D t]
theorem Us {w:World}{v:Value}{D:FnD}(h:aZ w v D):bM f [v] w (.int .i64 (check.iY D)):=aaO h▸a7j h
end refC
namespace great
open Go.RowKit Am
def f:FuncId:=40
def F:Func:=Tryz.f40
def code:Code:=dZ F 0
def keep:List (Nat×S):=[(1,.ptr 0 0),(2,.bool false)]
def hp:Hp:=[(0,⟨bK,true⟩)]
def hd:St:=⟨iP F.ntmps (keep++[(3,.xi .i64 4)]),⟨hp,1⟩⟩
def sN:St:=⟨iP F.ntmps keep,⟨hp,1⟩⟩
def sR:St:=⟨iP F.ntmps [(2,.bool true)],⟨[],1⟩⟩
def aaX:E:=.or (.not (.lt 7 31)) (.not (.lt 17 13))
def bigT:HT:=.by 7 31 (.by 17 13 .leaf .leaf) .leaf
def L1:Lf:=(Lf.of (eH++[])).pin 6 1
def L0:Lf:=(Lf.of (eH++[])).pin 6 0
def turn (tb:Tabs)(giv:List (E×Bool))(us:List Upd)(x:X)(s1:St):Lf->Bool:=dQ (dG gU tb bg) f dW giv us ⟨4,0,3⟩ code hd x s1
theorem step:aG (turn (cu.app iJ) [(aaX,false)] [isU (.xi .i64 4) (.xi .i64 5)] .normal hd) bigT L1=true:=by kernel_rfl
theorem bad:aG (turn (cu.app iJ) [(aaX,true)] [] .ret sR) bigT L1=true:=by kernel_rfl
theorem stop:aG (turn cu [] [] (.exit 0) sN) .leaf L0=true:=by kernel_rfl
def row (x:X)(s1:St)(K:Know):Loops:=jh 5 ⟨4,0,3⟩ (@thU K [isU (.xi .i64 4) (.int .i64 0)]) hd x s1
def a5v:E:=.or (.not (.lt 2 31)) (.not (.lt 3 31))
def run (rows:Know->List (FuncId×Loops))(giv:List (E×Bool))(b:Bool):Lf->Bool:=lu (dG gU cu λK=>dV (rows K)) f dW giv [] (λ_=>V.s (.bool b)) [.g bK]
def LG:Lf:=Lf.of (eH++[])
def aa2:HT:=.by 2 31 (.by 3 31 .leaf .leaf) .leaf
theorem a5R:aG (run (λ_=>[]) [(a5v,true)] true) aa2 LG=true:=by kernel_rfl
theorem a5p:aG (run (λK=>[(f,row .ret sR K)]) [(a5v,false)] true) aa2 LG=true:=by kernel_rfl
theorem nU:aG (run (λK=>[(f,row (.exit 0) sN K)]) [(a5v,false)] false) aa2 LG=true:=by kernel_rfl
theorem tag:fU (F.body.getD .skip) 0 5=true:=by kernel_rfl
def Io (b:bU):Bool:=!decide ((b.st.length:Int)<31)||!decide ((b.ops.length:Int)<13)
def a5w (D:FnD):Bool:=!decide ((D.ls.length:Int)<31)||!decide ((D.bs.length:Int)<31)
def Ag (D:FnD):Bool:=a5w D||D.bs.any Io
section
variable {w:World} {v:Value} {D:FnD} (h:aZ w v D)
include h
theorem blks (hB:D.bs.length<=1000){b:Bool}(hb:(D.bs.all λx=>!Io x)=b)(K:Know)(ok:aC K (fnB w D (atB 0) []).rho (fnB w D (atB 0) []).sig):
  @aO ((fnB w D (atB 0) []).aF K ok) Tryz.prog (row (if b then .exit 0 else .ret) (if b then sN else sR) K) code:=by
 have us:∀u∈[isU (.xi .i64 4) (.int .i64 0)],iQ (fnB w D (atB 0) []) (fnB w D (atB 0) []) u:=λu hu=>by
  obtain rfl:=aeR.1 hu
  exact dM λr v hv=>hv
 have hin:∀k,k<D.bs.length->L1.Holds (aA (aH D (atB k) [])) (λ_=>[]):=λk hk=>(twos.dU h (atB k) (fD (by omega)) []).pin (i:=6) (c:=1) (show b2i (decide ((k:Int)<D.bs.length))=1 from(dh _).2 (by omega))
 have rg:∀k,k<D.bs.length->jJ Tryz.prog (dG gU (cu.app iJ) bg) (fnB w D (atB k) []):=λk hk=>bC (@aX (fnB w D (atB k) []) cu iJ (aS h _ _) (dN h (q:=atB k) hk _))
 have gv:∀k b,Io (D.blk k)=b->∀p∈[(aaX,b)],p.1.num (aA (aH D (atB k) []))=p.2:=λk b e p hp=>by
  obtain rfl:=aeR.1 hp
  exact e
 have hstep:∀k,k<D.bs.length->(!Io (D.blk k))=true->gY Tryz.prog (fnB w D (atB k) []) (fnB w D (atB (k+1)) []) code hd .normal hd:=λk hk e=>by
  refine bI step (rg k hk) (bJ _ _ _ _) (hin k hk) (aK D _ _) (gv k false (by rwa[ag3]at e)) (λu hu=>?_) rfl (bF f code)
  obtain rfl:=aeR.1 hu
  exact dM λr v hv=>hv
 have hend:gY Tryz.prog (fnB w D (atB D.bs.length) []) (fnB w D (atB 0) []) code hd (.exit 0) sN:=
  bI stop (bC (aS h _ _)) (bJ _ _ _ _) (L:=L0) ((twos.dU h (atB D.bs.length) (fD (by omega)) []).pin (i:=6) (c:=0) (show b2i (decide ((D.bs.length:Int)<D.bs.length))=0 by rw[af2 (by omega)];rfl)) (aK D _ _) (λp hp=>by cases hp) (λu hu=>by cases hu) rfl (bF f code)
 cases b with
 |true=>
  have hall:=(iW D.bs b0 λx=>!Io x).2 hb
  exact @dn _ _ (λk=>fnB w D (atB k) []) code _ _ hd _ _ (λe=>by cases e) D.bs.length (bJ _ _ [] []) us (λk hk=>hstep k hk (hall k hk)) hend 5 K ok
 |false=>
  rcases jU (λi=>!Io (D.blk i)) D.bs.length with hall|⟨N,hN,h0,hn⟩
  ·rw[(iW D.bs b0 λx=>!Io x).1 hall]at hb
   cases hb
  ·exact @dn _ _ (λk=>fnB w D (atB k) []) code _ _ hd _ _ (λe=>by cases e) N (bJ _ _ [] []) us (λk hk=>hstep k (by omega) (h0 k hk)) (bI bad (rg N hN) (bJ _ _ _ _) (hin N hN) (aK D _ _) (gv N true (by rwa[agP]at hn)) (λu hu=>by cases hu) rfl (bF f code)) 5 K ok
theorem Yp:bM f [v] w (.bool (Ag D)):=by
 have hst:=twos.dU h (atB 0) (fD (by omega)) []
 have gv:∀b,a5w D=b->∀p∈[(a5v,b)],p.1.num (aA (aH D (atB 0) []))=p.2:=λb e p hp=>by
  obtain rfl:=aeR.1 hp
  exact e
 unfold Ag
 cases ht:a5w D with
 |true=>exact jM h a5R (fV jA (aS h _ _) (rows_ok (T:=λ_=>[]) λK ok p hp=>by cases hp)) hst (aK D _ _) (gv true ht) (λr x hx=>hx)
 |false=>
  have hB:D.bs.length<=1000:=by
   unfold a5w at ht
   simp only[agC,agP,af6]at ht
   omega
  have rw':∀b,(D.bs.all λx=>!Io x)=b->jJ Tryz.prog (dG gU cu λK=>dV [(f,row (if b then .exit 0 else .ret) (if b then sN else sR) K)]) (fnB w D (atB 0) []):=λb e=>fV jA (aS h _ _) (rows_ok (T:=λK=>[(f,row (if b then .exit 0 else .ret) (if b then sN else sR) K)]) λK ok p hp=>by
   obtain rfl:=aeR.1 hp
   exact⟨F,Tryz.func40,λc hc=>iH tag (blks h hB e K ok) hc⟩)
  have en:D.bs.any Io=!(D.bs.all λx=>!Io x):=by rw[List.any_eq_not_all_not]
  rw[Bool.false_or,en]
  cases e:(D.bs.all λx=>!Io x)with
  |true=>exact jM h nU (rw' true e) hst (aK D _ _) (gv false ht) (λr x hx=>hx)
  |false=>exact jM h a5p (rw' false e) hst (aK D _ _) (gv false ht) (λr x hx=>hx)
end
end great
namespace size
open Go.RowKit Am
def f:FuncId:=11
def F:Func:=Tryz.f11
def code:Code:=dZ F 0
def xi (n:Nat):S:=.xi .i64 n
def keep (n:Nat):List (Nat×S):=[(1,.ptr 0 0),(5,xi n),(17,.rv 1),(18,xi 3)]
def hp:Hp:=[(0,⟨bK,true⟩)]
def hd:St:=⟨iP F.ntmps (keep 77++[(19,xi 4)]),⟨hp,1⟩⟩
def sN:St:=⟨iP F.ntmps (keep 79),⟨hp,1⟩⟩
def L1:Lf:=(Lf.of (eH++[])).pin 6 1
def L0:Lf:=(Lf.of (eH++[])).pin 6 0
def fx:Fx:=⟨[],{ dW.xt with sm:=[(77,7,78)] }⟩
theorem step:aG (dQ (dG gU (cu.app iJ) bg) f fx [] [isU (xi 4) (xi 5),isU (xi 77) (xi 78)] ⟨4,0,3⟩ code hd .normal hd) .leaf L1=true:=by kernel_rfl
theorem stop:aG (dQ (dG gU cu bg) f dW [] [isU (xi 79) (xi 77)] ⟨4,0,3⟩ code hd (.exit 0) sN) .leaf L0=true:=by kernel_rfl
def row (K:Know):Loops:=jh 7 ⟨4,0,3⟩ (@thU K [isU (xi 4) (.int .i64 0),isU (xi 77) (xi 3)]) hd (.exit 0) sN
def lib:Know->aU:=λ_=>nJ check.f [.g bK] (V.s (.int .i64 0))
def LG:Lf:=Lf.of (eH++[])
theorem nU:aG (lu (dG lib cu λK=>dV [(f,row K)]) f dW [] [] (λ_=>.t [.s (xi 79),.s (.int .i64 0)]) [.g bK]) .leaf LG=true:=by kernel_rfl
theorem tag:fU (F.body.getD .skip) 0 7=true:=by kernel_rfl
def wS (D:FnD)(i:Nat):Int:=D.bs.length+acc (λb:bU=>(b.st.length:Int)) (D.bs.take i)
def jl (D:FnD):Int:=D.bs.length+acc (λb:bU=>(b.st.length:Int)) D.bs
def mk (D:FnD)(i:Nat):List Int:=[wS D i,wS D i+(D.blk i).st.length]
def mF (D:FnD):List Int:=[0,0,jl D]
theorem xX {D:FnD}(h:check.iY D=0):many.jq D=false/\made.kT D=true/\twos.sO D=true:=by
 unfold check.iY at h
 cases h1:many.jq D<;>cases h2:made.kT D<;>cases h3:twos.sO D<;>simp[h1,h2,h3]at h |-
section
variable {w:World} {v:Value} {D:FnD} (h:aZ w v D)
include h
theorem sm (hc:check.iY D=0):twos.Sm D:=by
 obtain⟨h1,h2,_⟩:=xX hc
 exact check.XC h h1 h2
theorem aap (hs:twos.Sm D)(i:Nat):0<=wS D i/\wS D i<=1000:=by
 have:=qp (λb:bU=>(b.st.length:Int)) 24 (D.bs.take i) λb hb=>by
  have:=(hs.s b (afW hb)).1
  omega
 have hl:(D.bs.take i).length<=24:=by rw[afu];have:=hs.b;omega
 have hb:=hs.b
 unfold wS
 omega
theorem loop (hs:twos.Sm D)(K:Know)(ok:aC K (fnB w D (atB 0) (mF D)).rho (fnB w D (atB 0) (mF D)).sig):@aO ((fnB w D (atB 0) (mF D)).aF K ok) Tryz.prog (row K) code:=by
 have hn:=hs.b
 have n77:∀i,(fnB w D (atB i) (mk D i)).rho 77=wS D i:=λi=>eu (D:=D) (q:=atB i) 0
 have n78:∀i,(fnB w D (atB i) (mk D i)).rho 78=wS D i+(D.blk i).st.length:=λi=>eu (D:=D) (q:=atB i) 1
 have o79:(fnB w D (atB 0) (mF D)).rho 79=jl D:=eu (D:=D) (q:=atB 0) 2
 refine @dn _ _ (λi=>fnB w D (atB i) (mk D i)) code _ _ hd _ _ (λe=>by cases e) D.bs.length (bJ _ _ _ _) (λu hu=>?_) (λi hi=>?_) ?_ 7 K ok
 ·simp only[aeQ,aeZ,afj]at hu
  rcases hu with rfl|rfl
  ·exact dM λr v hv=>hv
  ·refine onceR.qE ((show(fnB w D (atB 0) (mF D)).rho 3=(D.bs.length:Int)from rfl).trans ((n77 0).trans ?_).symm)
   show(D.bs.length:Int)+0=_
   omega
 ·have sn:wS D (i+1)=wS D i+(D.blk i).st.length:=by
   unfold wS
   rw[nH _ _ b0 hi]
   show _+(_+((D.blk i).st.length:Int))=_
   omega
  have hb:=aap h hs (i+1)
  refine bI step (bC (@aX (fnB w D (atB i) (mk D i)) cu iJ (aS h _ _) (dN h (q:=atB i) hi _))) (bJ _ _ _ _) ((twos.dU h (atB i) (fD (by omega)) _).pin (i:=6) (c:=1) (show b2i (decide ((i:Int)<D.bs.length))=1 from(dh _).2 (by omega))) ?_ (λp hp=>by cases hp) (λu hu=>?_) rfl (bF f code)
  ·have h0:=aK D (atB i) (mk D i)
   refine⟨λa c b hm=>(by cases hm),⟨h0.xt.lf,λa b c hm=>?_,h0.xt.ld,h0.xt.sr,h0.xt.eq⟩⟩
   obtain e:=aeR.1 (show(a,b,c)∈[(77,7,78)]from hm)
   cases e
   rw[show aA (aH D (atB i) (mk D i)) 77=_ from n77 i,show aA (aH D (atB i) (mk D i)) 78=_ from n78 i]
   exact⟨rfl,by show(-9223372036854775808:Int)<=_;omega,by show _<=(9223372036854775807:Int);omega⟩
  ·simp only[aeQ,aeZ,afj]at hu
   rcases hu with rfl|rfl
   ·exact dM λr v hv=>hv
   ·exact onceR.qE ((n78 i).trans (sn.symm.trans (n77 (i+1)).symm))
 ·refine bI stop (bC (aS h _ _)) (bJ _ _ _ _) (L:=L0) ((twos.dU h (atB D.bs.length) (fD (by omega)) _).pin (i:=6) (c:=0) (show b2i (decide ((D.bs.length:Int)<D.bs.length))=0 by rw[af2 (by omega)];rfl)) (aK D _ _) (λp hp=>by cases hp) (λu hu=>?_) rfl (bF f code)
  obtain rfl:=aeR.1 hu
  exact onceR.qE ((n77 _).trans ((show wS D D.bs.length=jl D by unfold wS jl;rw[afq]).trans o79.symm))
theorem Py (hc:check.iY D=0):bM f [v] w (.tuple #[.int .i64 (jl D),.int .i64 0]):=by
 have hs:=sm h hc
 refine jM h nU (fV (BI h ⟨_,Tryz.func47,by kernel_rfl,by kernel_rfl⟩ (mv:=V.s (.int .i64 0)) (u:=.int .i64 0) (λb0 r=>rfl) (atB 0) (mF D) λw' hw=>hc▸check.uT hw) (aS h _ _) (rows_ok (T:=λK=>[(f,row K)]) λK ok p hp=>?_)) (twos.dU h (atB 0) (fD (by omega)) _) (aK D _ _) (λp hp=>by cases hp) (λr x hx=>?_)
 ·obtain rfl:=aeR.1 hp
  exact⟨F,Tryz.func11,λc hc=>iH tag (loop h hs K ok) hc⟩
 ·obtain⟨vs,rfl,hv⟩:=hx
  match vs,hv with
  |[a,c],⟨ha,hc,_⟩=>
   have hc:c=.int .i64 0:=hc
   have ha:a=.int .i64 ((fnB w D (atB 0) (mF D)).rho 79):=ha
   rw[ha,hc,show(fnB w D (atB 0) (mF D)).rho 79=jl D from eu (D:=D) (q:=atB 0) 2]
end
end size
namespace callsF
open Go.RowKit Am
def f:FuncId:=99
def F:Func:=Tryz.f99
def mX:Code:=dZ F 0
def keep:List (Nat×S):=[(1,.ptr 0 0),(5,.ptr 1 0),(17,.rv 1),(18,.xi .i64 3)]
def abq:List S:=(aia 8).map λj=>.xe [(nm 0 j,1)]
def hp:Hp:=[(1,⟨abq,true⟩),(0,⟨bK,true⟩)]
def hd:St:=⟨iP F.ntmps (keep++[(19,.xi .i64 4)]),⟨hp,2⟩⟩
def sN:St:=⟨iP F.ntmps keep,⟨hp,2⟩⟩
def L1:Lf:=(((Lf.of (eH++[])).pin 6 1).lo 14 0).hi 14 7
def L0:Lf:=(Lf.of (eH++[])).pin 6 0
theorem step:aG (dQ (dG gU (cu.app iJ) bg) f dW [] (isU (.xi .i64 4) (.xi .i64 5)::Ot 0 0 14 (isE 8 4)) ⟨4,0,3⟩ mX hd .normal hd) (onceR.e1 8 4 .leaf) L1=true:=by kernel_rfl
theorem stop:aG (dQ (dG gU cu bg) f dW [] (lJ 0 0) ⟨4,0,3⟩ mX hd (.exit 0) sN) .leaf L0=true:=by kernel_rfl
def row (K:Know):Loops:=jh 7 ⟨4,0,3⟩ (@thU K (isU (.xi .i64 4) (.int .i64 0)::y7 0)) hd (.exit 0) sN
theorem tag:fU (F.body.getD .skip) 0 7=true:=by kernel_rfl
def LT:Lf:=Lf.of (eH++List.replicate 16 ivB)
def LP (bs:List Bool):Lf:=(aia 8).foldl (λL j=>L.pin (nm 0 j) (b2i (bs.getD j false))) LT
def lits (bs:List Bool):List Int:=((aia 8).filter λj=>bs.getD j false).map λj:Nat=>(j:Int)
def lM:List S->List Int->Bool
 |_,[]=>true
 | .int .i64 m::r,n::t=>decide (m=n)&&lM r t
 |_,_=>false
def ad3 (x:S)(h:Heap)(ns:List Int):Bool:=match x with
 | .uQ=>ns.isEmpty
 | .sl l 0 n 1 none=>Nat.beq n ns.length&&(Nat.blt 0 n&&Option.rec false (λb=>b.own&&lM b.cells ns) (h.get l))
 |_=>false
def XY (x:Option (V×Heap))(ns:List Int):Bool:=match x with
 |some (.t [.s x,.s (.int .i64 e)],h)=>decide (e=0)&&ad3 x h ns
 |_=>false
theorem Gw:∀{cs:List S} {ns:List Int},lM cs ns=true->∀i n,ns[i]? =some n->nth cs i=some (.int .i64 n)
 |_,[],_,i,n,e=>by simp at e
 | .int .i64 m::r,n::t,h,0,k,e=>by
  simp only[lM,aeI,af6]at h
  obtain rfl:n=k:=by simpa using e
  rw[aI,<-h.1]
  rfl
 | .int .i64 m::r,n::t,h,i+1,k,e=>by
  simp only[lM,aeI,af6]at h
  have:=Gw h.2 i k (by simpa using e)
  rw[aI]at this |-
  simpa using this
theorem F9:∀{cs:List S} {ns:List Int},lM cs ns=true->ns.length<=cs.length
 |_,[],_=>afb _
 | .int .i64 m::r,n::t,h=>by
  simp only[lM,aeI]at h
  have:=F9 h.2
  simp only[afi]
  omega
theorem a7L {r:Option (V×Heap)}{ns:List Int}(h:XY r ns=true):∃cs:List S,Am.rowAt r=some cs/\cs.length=ns.length/\lM cs ns=true:=by
 unfold XY at h
 split at h
 ·rename_i x e h'
  rw[aeI,ag8]at h
  obtain⟨rfl,hk⟩:=h
  unfold ad3 at hk
  split at hk
  ·have:ns=[]:=by cases ns with |nil=>rfl|cons _ _=>cases hk
   subst this
   exact⟨[],rfl,rfl,by cases h'<;>rfl⟩
  ·rename_i l n
   rw[aeI,aeI]at hk
   obtain⟨k1,k2,k3⟩:=hk
   have k1:=aeX k1
   cases hb:h'.get l with
   |none=>rw[hb]at k3;cases k3
   |some bk=>
    rw[hb]at k3
    have k3:(bk.own&&lM bk.cells ns)=true:=k3
    rw[aeI]at k3
    obtain⟨k3,k4⟩:=k3
    have hl:=F9 k4
    refine⟨bk.cells.take n,?_,by rw[afu];omega,?_⟩
    ·show ob (h'.get l) (λb=>bif b.own&&Nat.blt 0 n&&Nat.ble n b.cells.length then some (b.cells.take n)else none)=_
     rw[hb]
     show(bif bk.own&&Nat.blt 0 n&&Nat.ble n bk.cells.length then some (bk.cells.take n)else none)=_
     rw[k3,k2,agb (by omega)]
     rfl
    ·subst k1
     have key:∀{cs:List S} {ns:List Int},lM cs ns=true->lM (cs.take ns.length) ns=true:=λ{cs ns}=>by
      induction ns generalizing cs with
      |nil=>intro _;cases cs<;>rfl
      |cons n t ih=>
       intro h
       match cs,h with
       | .int .i64 m::r,h=>
        simp only[lM,aeI]at h
        show(decide (m=n)&&lM (r.take t.length) t)=true
        rw[h.1,ih h.2]
        rfl
     exact key k4
  ·cases hk
 ·cases h
theorem SV {P:Program}{R:Rig}{f:FuncId}{b:Base}{w:World}(hnb:b.nb<=w.heap.size)(hg:∀k,k<b.nb->w.heap[k]? =b.g k)(hR:jJ P R b){L:Lf}{fx:Fx}{args:List A}{vs:List Value}{ns:List Int}(hL:L.Holds b.rho b.sig)(hf:vJ fx b.rho)(ha:au (@VA b r0) args vs)
  (hrun:XY (@qR (L.ig fx) R.ty R.fn (R.lib (L.ig fx)) R.tb (R.loops (L.ig fx)) R.n R.d f args ⟨[],0⟩ 0) ns=true):
  Calls P f vs.toArray w λe w'=>∃s,e=.returned (.tuple #[s,.int .i64 0])/\zK w w' s (ns.map (Value.int .i64))/\Below w.heap.size w w':=by
 let bL:Base:=b.aF (L.ig fx) (Lf.okX hL hf)
 obtain⟨cs,hr,hl,hc⟩:=a7L hrun
 refine(@Ya bL P w hnb hg _ (hR.sound _ _) f args vs ha cs hr).mono λx w' ⟨u,us,r',e1,e2,e3,e4⟩=>⟨u,e1,?_,e4⟩
 have:us=ns.map (Value.int .i64):=by
  have h2:=e3.len
  refine agT λi=>?_
  rw[aeT]
  cases hn:ns[i]? with
  |none=>
   have:ns.length<=i:=by rw[List.getElem?_eq_none_iff]at hn;exact hn
   rw[afT (by omega)]
   rfl
  |some n=>
   obtain⟨v,hv,e⟩:=au.nth e3 (Gw hc i n hn)
   have e:v=.int .i64 n:=e
   rw[hv,e]
   rfl
 rw[<-this]
 exact e2
def R:Rig:=dG size.lib cu λK=>dV [(f,row K)]
def okP (bs:List Bool):Bool:=XY (@qR ((LP bs).ig dW) R.ty R.fn (R.lib ((LP bs).ig dW)) R.tb (R.loops ((LP bs).ig dW)) R.n R.d f [.g bK] ⟨[],0⟩ 0) (lits bs)
def allB:Nat->List (List Bool)
 |0=>[[]]
 |n+1=>(allB n).flatMap λl=>[true::l,false::l]
theorem RX:∀l:List Bool,l∈allB l.length
 |[]=>by simp[allB]
 |b::l=>by
  have:=RX l
  show b::l∈(allB l.length).flatMap _
  rw[agK]
  exact⟨l,this,by cases b<;>simp⟩
def chunk (p:List Bool):Bool:=(allB 4).all λl=>okP (p++l)
theorem c0:chunk [false,false,false,false]=true:=by kernel_rfl
theorem c1:chunk [true,false,false,false]=true:=by kernel_rfl
theorem c2:chunk [false,true,false,false]=true:=by kernel_rfl
theorem c3:chunk [true,true,false,false]=true:=by kernel_rfl
theorem c4:chunk [false,false,true,false]=true:=by kernel_rfl
theorem c5:chunk [true,false,true,false]=true:=by kernel_rfl
theorem c6:chunk [false,true,true,false]=true:=by kernel_rfl
theorem c7:chunk [true,true,true,false]=true:=by kernel_rfl
theorem c8:chunk [false,false,false,true]=true:=by kernel_rfl
theorem c9:chunk [true,false,false,true]=true:=by kernel_rfl
theorem c10:chunk [false,true,false,true]=true:=by kernel_rfl
theorem c11:chunk [true,true,false,true]=true:=by kernel_rfl
theorem c12:chunk [false,false,true,true]=true:=by kernel_rfl
theorem c13:chunk [true,false,true,true]=true:=by kernel_rfl
theorem c14:chunk [false,true,true,true]=true:=by kernel_rfl
theorem c15:chunk [true,true,true,true]=true:=by kernel_rfl
theorem chunk_ok:∀a b c d:Bool,chunk [a,b,c,d]=true:=by
 intro a b c d
 cases a<;>cases b<;>cases c<;>cases d
 ·exact c0
 ·exact c8
 ·exact c4
 ·exact c12
 ·exact c2
 ·exact c10
 ·exact c6
 ·exact c14
 ·exact c1
 ·exact c9
 ·exact c5
 ·exact c13
 ·exact c3
 ·exact c11
 ·exact c7
 ·exact c15
theorem a9F (a b c d e g i j:Bool):okP [a,b,c,d,e,g,i,j]=true:=aeV.1 (chunk_ok a b c d) [e,g,i,j] (RX [e,g,i,j])
