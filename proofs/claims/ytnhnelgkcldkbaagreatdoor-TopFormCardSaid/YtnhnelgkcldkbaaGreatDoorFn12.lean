/- fnshape.twos counts; it tells which locals are two-phase, and whether they are right. fnshape.twos: arguments, blocks, the last loop; what it answers. -/
import Derived.Test.YtnhnelgkcldkbaaGreatDoorFn10
set_option linter.all false
set_option maxRecDepth 100000
namespace Go.Proofs.YtnhnelgkcldkbaaGreatDoor
namespace twos
open Go.RowKit Am
def gK:Nat->List Nat
 |1=>[25]
 |2=>[22]
 |3=>[1]
 |4=>[1,17]
 |5=>[1,9]
 |6=>[1,9,14]
 |7=>[1,14]
 |_=>[]
def kU (st:List Value):Nat:=jK (yh.map (E.num (ah st)))
def tJ (st:List Value)(j:Nat):Int:=cnt ((gK (kU st)).map (ah st)) j
def MN (st:List Value):Bool:=Jv.num (ah st)
def Rw (st:List Value)(j:Nat):Int:=b2i (MN st&&decide (ah st 9=(j:Int)))
def PW (st:List Value):Bool:=FC.num (ah st)
def setB (st:List Value):Bool:=PW st&&(decide (ah st 2=0)&&(decide (ah st 3=0)&&!decide (ah st 17=ah st 1)))
def a3h (st:List Value)(j:Nat):Int:=b2i (setB st&&decide (ah st 1=(j:Int)))
def isS (st:List Value)(j:Nat):Bool:=PW st&&decide (ah st 1=(j:Int))
def xZ (op:List Value)(j:Nat):Int:=b2i (!decide (ah op 0=1)&&decide (ah op 2=(j:Int)))
def CY (op:List Value):Bool:=decide (ah op 0=3)&&(decide (ah op 3=0)&&decide (ah op 4=0))
def tV (op:List Value)(j:Nat):Int:=b2i (CY op&&decide (ah op 2=(j:Int)))
structure Ct where
 a:Nat->Int
 p:Nat->Int
 s:Nat->Int
 i:Nat->Bool
def Ct.nought:Ct:=⟨λ_=>0,λ_=>0,λ_=>0,λ_=>false⟩
def Ct.stm (C:Ct)(l:List (List Value)):Ct:=⟨λj=>C.a j+acc (λst=>tJ st j) l,λj=>C.p j+acc (λst=>Rw st j) l,λj=>C.s j+acc (λst=>a3h st j) l,λj=>C.i j||l.any λst=>isS st j⟩
def Ct.opd (C:Ct)(l:List (List Value)):Ct:=⟨λj=>C.a j+acc (λop=>xZ op j) l,λj=>C.p j+acc (λop=>tV op j) l,C.s,C.i⟩
def Ct.dest (C:Ct)(l:Int):Ct:=⟨bump C.a l,C.p,C.s,C.i⟩
def Ct.jmp (C:Ct)(b:bU):Ct:=if ah b.pre 0=2 then(if ah b.pre 1=1 then C else C.dest (ah b.pre 3))else if ah b.pre 0=4 then(C.dest (ah b.post 0)).opd b.ops else C
def Ct.blk (C:Ct)(b:bU):Ct:=(C.stm b.st).jmp b
def Ct.at (D:FnD)(i:Nat):Ct:=(D.bs.take i).foldl Ct.blk Ct.nought
def Ct.fn (D:FnD):Ct:=D.bs.foldl Ct.blk Ct.nought
structure Ct.In (C:Ct)(M:Int):Prop where
 a:∀j,0<=C.a j/\C.a j<=M
 p:∀j,0<=C.p j/\C.p j<=M
 s:∀j,0<=C.s j/\C.s j<=M
theorem Bj (s:Nat):(gK s).length<=3:=by unfold gK;split<;>decide
theorem UY (st:List Value)(j:Nat):0<=tJ st j/\tJ st j<=((3:Nat):Int):=by
 have h:=qp (λl=>b2i (decide (l=(j:Int)))) 1 ((gK (kU st)).map (ah st)) λx _=>by have:=eU (decide (x=(j:Int)));omega
 have h3:=Bj (kU st)
 unfold tJ cnt
 rw[af4]at h
 omega
theorem In.stm {C:Ct}{M:Int}(h:C.In M)(l:List (List Value)):(C.stm l).In (M+3*l.length):=by
 have ha:=λj=>qp (λst=>tJ st j) 3 l λx _=>UY x j
 have hp:=λj=>qp (λst=>Rw st j) 1 l λx _=>by have:=eU (MN x&&decide (ah x 9=(j:Int)));exact this
 have hs:=λj=>qp (λst=>a3h st j) 1 l λx _=>by have:=eU (setB x&&decide (ah x 1=(j:Int)));exact this
 refine⟨λj=>?_,λj=>?_,λj=>?_⟩
 ·have:=ha j;have:=h.a j;show 0<=C.a j+_/\C.a j+_<=_;omega
 ·have:=hp j;have:=h.p j;show 0<=C.p j+_/\C.p j+_<=_;omega
 ·have:=hs j;have:=h.s j;show 0<=C.s j+_/\C.s j+_<=_;omega
theorem In.opd {C:Ct}{M:Int}(h:C.In M)(l:List (List Value)):(C.opd l).In (M+l.length):=by
 have ha:=λj=>qp (λop=>xZ op j) 1 l λx _=>eU _
 have hp:=λj=>qp (λop=>tV op j) 1 l λx _=>eU _
 refine⟨λj=>?_,λj=>?_,λj=>?_⟩
 ·have:=ha j;have:=h.a j;show 0<=C.a j+_/\C.a j+_<=_;omega
 ·have:=hp j;have:=h.p j;show 0<=C.p j+_/\C.p j+_<=_;omega
 ·have:=h.s j;show 0<=C.s j/\C.s j<=_;omega
theorem In.dest {C:Ct}{M:Int}(h:C.In M)(l:Int):(C.dest l).In (M+1):=
 ⟨AB h.a,λj=>by have:=h.p j;show 0<=C.p j/\C.p j<=_;omega,λj=>by have:=h.s j;show 0<=C.s j/\C.s j<=_;omega⟩
theorem In.more {C:Ct}{M N:Int}(h:C.In M)(hn:M<=N):C.In N:=⟨λj=>by have:=h.a j;omega,λj=>by have:=h.p j;omega,λj=>by have:=h.s j;omega⟩
theorem In.jmp {C:Ct}{M:Int}(h:C.In M)(b:bU):(C.jmp b).In (M+1+b.ops.length):=by
 unfold Ct.jmp
 split
 ·split
  ·exact In.more h (by omega)
  ·exact In.more (In.dest h _) (by omega)
 ·split
  ·exact In.opd (In.dest h _) _
  ·exact In.more h (by omega)
theorem In.nought:Ct.nought.In 0:=⟨λ_=>⟨agd _,agd _⟩,λ_=>⟨agd _,agd _⟩,λ_=>⟨agd _,agd _⟩⟩
structure Sm (D:FnD):Prop where
 b:D.bs.length<=24
 s:∀b∈D.bs,b.st.length<=24/\b.ops.length<=8
theorem In.blk {C:Ct}{M:Int}(h:C.In M){b:bU}(hb:b.st.length<=24/\b.ops.length<=8):(C.blk b).In (M+1000):=In.more (In.jmp (In.stm h b.st) b) (by omega)
theorem FU {D:FnD}{i:Nat}(hi:i<D.bs.length):Ct.at D (i+1)=(Ct.at D i).blk (D.blk i):=by
 unfold Ct.at
 rw[afN hi,List.foldl_append]
 show Ct.blk _ _=_
 congr 1
 unfold FnD.blk
 rw[af8,aeK hi]
 rfl
theorem nR {D:FnD}{i:Nat}(hi:i<D.bs.length):D.blk i∈D.bs:=by
 unfold FnD.blk
 rw[af8,aeK hi]
 exact agl hi
theorem In.at {D:FnD}(h:Sm D):∀{i:Nat},i<=D.bs.length->(Ct.at D i).In (1000*i)
 |0,_=>In.nought
 |i+1,hi=>by
  rw[FU hi]
  exact In.more (In.blk (In.at h (by omega)) (h.s _ (nR hi))) (by omega)
def a1E (st:List Value)(C:Ct):List (Nat->Int):=
 [C.a,C.p,C.s,λj=>b2i (C.i j),bump C.a (ah st 25),bump C.a (ah st 22),bump C.a (ah st 1),bump (bump C.a (ah st 1)) (ah st 17),bump (bump C.a (ah st 1)) (ah st 9),
  bump (bump (bump C.a (ah st 1)) (ah st 9)) (ah st 14),bump (bump C.a (ah st 1)) (ah st 14),bump C.p (ah st 9),bump C.s (ah st 1)]
def vY (F:Nat->Int)(l:Int):List Int:=[F l.toNat,F l.toNat+1]
def ac6 (st:List Value)(C:Ct):List Int:=
 vY C.a (ah st 25)++(vY C.a (ah st 22)++(vY C.a (ah st 1)++(vY (bump C.a (ah st 1)) (ah st 17)++(vY (bump C.a (ah st 1)) (ah st 9)++(vY (bump (bump C.a (ah st 1)) (ah st 9)) (ah st 14)++(vY (bump C.a (ah st 1)) (ah st 14)++(vY C.p (ah st 9)++vY C.s (ah st 1))))))))
def Du (st:List Value)(C:Ct):List Int:=cZ (a1E st C)++ac6 st C
theorem aeh {D:FnD}{q:At}{C:Ct}{M:Int}(h:C.In M)(hM:M<=900000):vJ (NQ trI) (aA (aH D q (Du (D.stm q.i q.k) C))):=by
 refine BF (aK D q _) λt ht=>?_
 have l49:aA (aH D q (Du (D.stm q.i q.k) C)) 49=ah (D.stm q.i q.k) 25:=rfl
 have l46:aA (aH D q (Du (D.stm q.i q.k) C)) 46=ah (D.stm q.i q.k) 22:=rfl
 have l25:aA (aH D q (Du (D.stm q.i q.k) C)) 25=ah (D.stm q.i q.k) 1:=rfl
 have l41:aA (aH D q (Du (D.stm q.i q.k) C)) 41=ah (D.stm q.i q.k) 17:=rfl
 have l33:aA (aH D q (Du (D.stm q.i q.k) C)) 33=ah (D.stm q.i q.k) 9:=rfl
 have l38:aA (aH D q (Du (D.stm q.i q.k) C)) 38=ah (D.stm q.i q.k) 14:=rfl
 unfold Du at l49 l46 l25 l41 l33 l38 |-
 have b1:=AB (l:=ah (D.stm q.i q.k) 1) h.a
 have b2:=AB (l:=ah (D.stm q.i q.k) 9) b1
 simp only[trI,aeQ,aeZ,afj]at ht
 rcases ht with rfl|rfl|rfl|rfl|rfl|rfl|rfl|rfl|rfl
 ·exact kC (N:=13) (n:=0) rfl rfl (by rw[l49];rfl) rfl (by rw[l49];rfl) (by rw[l49];rfl) h.a (by omega)
 ·exact kC (N:=13) (n:=2) rfl rfl (by rw[l46];rfl) rfl (by rw[l46];rfl) (by rw[l46];rfl) h.a (by omega)
 ·exact kC (N:=13) (n:=4) rfl rfl (by rw[l25];rfl) rfl (by rw[l25];rfl) (by rw[l25];rfl) h.a (by omega)
 ·exact kC (N:=13) (n:=6) rfl rfl (by rw[l41];rfl) rfl (by rw[l41];rfl) (by rw[l41];rfl) b1 (by omega)
 ·exact kC (N:=13) (n:=8) rfl rfl (by rw[l33];rfl) rfl (by rw[l33];rfl) (by rw[l33];rfl) b1 (by omega)
 ·exact kC (N:=13) (n:=10) rfl rfl (by rw[l38];rfl) rfl (by rw[l38];rfl) (by rw[l38];rfl) b2 (by omega)
 ·exact kC (N:=13) (n:=12) rfl rfl (by rw[l38];rfl) rfl (by rw[l38];rfl) (by rw[l38];rfl) b1 (by omega)
 ·exact kC (N:=13) (n:=14) rfl rfl (by rw[l33];rfl) rfl (by rw[l33];rfl) (by rw[l33];rfl) h.p (by omega)
 ·exact kC (N:=13) (n:=16) rfl rfl (by rw[l25];rfl) rfl (by rw[l25];rfl) (by rw[l25];rfl) h.s (by omega)
theorem RP (bs:List Bool):jK bs<=7:=by
 unfold jK
 split
 ·rename_i f sa p rp ra rb
  cases f<;>cases sa<;>cases p<;>cases rp<;>cases ra<;>cases rb<;>decide
 ·decide
theorem DJ (st:List Value)(C:Ct)(s:Nat)(hs:s<=7):∃F,(a1E st C)[rowOf s]? =some F/\∀j,F j=C.a j+cnt ((gK s).map (ah st)) j:=by
 have h8:s=0\/s=1\/s=2\/s=3\/s=4\/s=5\/s=6\/s=7:=by omega
 rcases h8 with rfl|rfl|rfl|rfl|rfl|rfl|rfl|rfl
 ·exact⟨_,rfl,λj=>by simp[gK,cnt,acc]⟩
 ·exact⟨_,rfl,λj=>by simp[gK,cnt,acc,bump]⟩
 ·exact⟨_,rfl,λj=>by simp[gK,cnt,acc,bump]⟩
 ·exact⟨_,rfl,λj=>by simp[gK,cnt,acc,bump]⟩
 ·exact⟨_,rfl,λj=>by simp[gK,cnt,acc,bump];omega⟩
 ·exact⟨_,rfl,λj=>by simp[gK,cnt,acc,bump];omega⟩
 ·exact⟨_,rfl,λj=>by simp[gK,cnt,acc,bump];omega⟩
 ·exact⟨_,rfl,λj=>by simp[gK,cnt,acc,bump];omega⟩
theorem xR {α:Type}(l:List α)(d:α)(p:α->Bool){k:Nat}(hk:k<l.length):(l.take (k+1)).any p=((l.take k).any p||p (l.getD k d)):=by
 rw[afN hk,List.any_append,af8,aeK hk]
 simp
def ctK (D:FnD)(C:Ct)(i k:Nat):Ct:=C.stm ((D.blk i).st.take k)
def mI (D:FnD)(C:Ct)(i k:Nat):List Int:=Du (D.stm i k) (ctK D C i k)
theorem Nu {D:FnD}{C:Ct}{i k:Nat}(hk:k<(D.blk i).st.length):
  (∀j,(ctK D C i (k+1)).a j=(ctK D C i k).a j+tJ (D.stm i k) j)/\(∀j,(ctK D C i (k+1)).p j=(ctK D C i k).p j+Rw (D.stm i k) j)/\(∀j,(ctK D C i (k+1)).s j=(ctK D C i k).s j+a3h (D.stm i k) j)/\∀j,(ctK D C i (k+1)).i j=((ctK D C i k).i j||isS (D.stm i k) j):=by
 refine⟨λj=>?_,λj=>?_,λj=>?_,λj=>?_⟩
 ·show C.a j+acc _ _=C.a j+acc _ _+_;rw[nH _ _ [] hk];unfold FnD.stm;omega
 ·show C.p j+acc _ _=C.p j+acc _ _+_;rw[nH _ _ [] hk];unfold FnD.stm;omega
 ·show C.s j+acc _ _=C.s j+acc _ _+_;rw[nH _ _ [] hk];unfold FnD.stm;omega
 ·show(C.i j||List.any _ _)=(C.i j||List.any _ _||_);rw[xR _ [] _ hk,Bool.or_assoc];rfl
section
variable {w:World} {v:Value} {D:FnD} (h:aZ w v D)
include h
theorem dU (q:At)(hq:Fits D q)(m:List Int):(Lf.of (eH++[])).Holds (aA (aH D q m)) (λ_=>[]):=lC h hq (iv:=[]) (m1:=[]) (m2:=m) trivial _
theorem inner {C:Ct}{M:Int}(hC:C.In M)(hM:M<=100000){q:At}{m:List Int}(hi:q.i<D.bs.length)(hB:D.bs.length<=1000)(hS:(D.blk q.i).st.length<=1000)(hok:((D.blk q.i).st.all λst=>dK.val st)=true)
  (h0:∀j,j<16->aA (aH D q m) (nm 0 j)=C.a j/\aA (aH D q m) (nm 1 j)=C.p j/\aA (aH D q m) (nm 2 j)=C.s j/\aA (aH D q m) (nm 3 j)=b2i (C.i j))
  (h1:∀j,j<16->aA (aH D q m) (nm 4 j)=(C.stm (D.blk q.i).st).a j/\aA (aH D q m) (nm 5 j)=(C.stm (D.blk q.i).st).p j/\aA (aH D q m) (nm 6 j)=(C.stm (D.blk q.i).st).s j/\aA (aH D q m) (nm 7 j)=b2i ((C.stm (D.blk q.i).st).i j)):
  ∀K (ok:aC K (fnB w D q m).rho (fnB w D q m).sig),@aO ((fnB w D q m).aF K ok) Tryz.prog (pY K) bD:=by
 intro K ok
 have fit:∀k,k<=(D.blk q.i).st.length->Fits D (made.atS q.i k):=λk hk=>iL ⟨by show q.i<=1000;omega,by show k<=1000;omega,afb _,afb _⟩
 have okk:=(iW (D.blk q.i).st [] λst=>dK.val st).2 hok
 have r0:∀k b F,(a1E (D.stm q.i k) (ctK D C q.i k))[b]? =some F->∀j,j<16->(fnB w D (made.atS q.i k) (mI D C q.i k)).rho (nm b j)=F j:=λk b F e j hj=>gG e hj
 have us:∀u∈us0,iQ (fnB w D q m) (fnB w D (made.atS q.i 0) (mI D C q.i 0)) u:=λu hu=>by
  rcases aeQ.1 hu with rfl|hu
  ·exact dM λr v hv=>hv
  refine eF (dL λj hj=>?_) (eF (dL λj hj=>?_) (eF (dL λj hj=>?_) (iF λj hj=>?_))) u hu
  ·exact(h0 j hj).1.trans ((r0 0 0 _ rfl j hj).trans (by show C.a j+0=_;omega)).symm
  ·exact(h0 j hj).2.1.trans ((r0 0 1 _ rfl j hj).trans (by show C.p j+0=_;omega)).symm
  ·exact(h0 j hj).2.2.1.trans ((r0 0 2 _ rfl j hj).trans (by show C.s j+0=_;omega)).symm
  ·exact(h0 j hj).2.2.2.trans ((r0 0 3 _ rfl j hj).trans (by show b2i (C.i j||false)=_;rw[afL])).symm
 refine @dn _ _ (λk=>fnB w D (made.atS q.i k) (mI D C q.i k)) bD _ _ hdI _ _ (λe=>by cases e) (D.blk q.i).st.length (bY q (made.atS q.i 0) rfl _ _) us (λk hk=>?_) ?_ 8 K ok
 ·obtain⟨sa,sp,ss,si⟩:=Nu (C:=C) hk
  have okS:=okk k hk
  have rg:=λc hc=>Cm (Ah h hi hk).1 okS (c:=c) hc
  refine bI lq (bC (@aX (fnB w D (made.atS q.i k) (mI D C q.i k)) _ _ (aS h _ _) (@aX (fnB w D (made.atS q.i k) (mI D C q.i k)) _ _ (dN h (q:=made.atS q.i k) hi _) (Ci h (q:=made.atS q.i k) hi hk _)))) (bY (made.atS q.i k) (made.atS q.i (k+1)) rfl _ _) (L:=L1) ?_
   (aeh (q:=made.atS q.i k) (In.stm hC _) (by have:((D.blk q.i).st.take k).length<=1000:=(by rw[afu];omega);omega)) (λp hp=>?_) (λu hu=>?_) rfl (bF f bD)
  ·have hb:=((dU h (made.atS q.i k) (fit k (by omega)) (mI D C q.i k)).pin (i:=6) (c:=1) (show b2i (decide ((q.i:Int)<D.bs.length))=1 from(dh _).2 (by omega))).pin (i:=23) (c:=1) (show b2i (decide ((k:Int)<(D.blk q.i).st.length))=1 from(dh _).2 (by omega))
   have nr:∀{L:Lf} {i c:Nat},c∈[25,1,9,14,17,22]->aA (aH D (made.atS q.i k) (mI D C q.i k)) i=ah (D.stm q.i k) c->L.Holds (aA (aH D (made.atS q.i k) (mI D C q.i k))) (λ_=>[])->(mG L i).Holds (aA (aH D (made.atS q.i k) (mI D C q.i k))) (λ_=>[]):=λ{L i c} hc e hL=>by
    obtain⟨q1,q2⟩:=rg c hc
    exact(hL.lo (i:=i) (c:=0) (by rw[e];exact q1)).hi (i:=i) (c:=15) (by rw[e];exact q2)
   exact nr (i:=46) (c:=22) (by decide) rfl (nr (i:=41) (c:=17) (by decide) rfl (nr (i:=38) (c:=14) (by decide) rfl (nr (i:=33) (c:=9) (by decide) rfl (nr (i:=25) (c:=1) (by decide) rfl (nr (i:=49) (c:=25) (by decide) rfl hb)))))
  ·obtain rfl:=aeR.1 hp
   exact(FW (made.atS q.i k) _).trans okS
  ·have e24:∀e:E,e.bd 26=true->(xq e).num (fnB w D (made.atS q.i k) (mI D C q.i k)).rho=e.num (ah (D.stm q.i k)):=λe he=>yY (made.atS q.i k) _ he
   have e75:(fnB w D (made.atS q.i k) (mI D C q.i k)).rho 75=b2i (decide (ah (D.stm q.i k) 17=ah (D.stm q.i k) 1)):=rfl
   have e26:(fnB w D (made.atS q.i k) (mI D C q.i k)).rho 26=ah (D.stm q.i k) 2:=rfl
   have e27:(fnB w D (made.atS q.i k) (mI D C q.i k)).rho 27=ah (D.stm q.i k) 3:=rfl
   have e25:(fnB w D (made.atS q.i k) (mI D C q.i k)).rho 25=ah (D.stm q.i k) 1:=rfl
   rcases aeQ.1 hu with rfl|hu
   ·exact dM λr v hv=>hv
   refine eF (dL λj hj=>?_) (eF (dL λj hj=>?_) (eF (dL λj hj=>?_) (DK λj hj=>?_))) u hu
   ·obtain⟨G,g1,g2⟩:=DJ (D.stm q.i k) (ctK D C q.i k) (kU (D.stm q.i k)) (RP _)
    have eS:jK ((yh.map xq).map (E.num (fnB w D (made.atS q.i k) (mI D C q.i k)).rho))=kU (D.stm q.i k):=by
     refine congrArg jK ?_
     rw[agp]
     refine agZ λe he=>e24 e ?_
     simp only[yh,aeQ,aeZ,afj]at he
     rcases he with rfl|rfl|rfl|rfl|rfl|rfl<;>rfl
    rw[eS,r0 k _ G g1 j hj,g2 j,r0 (k+1) 0 _ rfl j hj,sa j]
    rfl
   ·simp only[afr,agj,agq]
    rw[e24 Jv rfl,r0 (k+1) 1 _ rfl j hj,sp j]
    unfold Rw MN
    cases hp:Jv.num (ah (D.stm q.i k))with
    |false=>rw[aeS,r0 k 1 _ rfl j hj,agw];show _=_+(0:Int);omega
    |true=>rw[aeW,r0 k 11 _ rfl j hj,afY];rfl
   ·have eN:abP.num (fnB w D (made.atS q.i k) (mI D C q.i k)).rho=setB (D.stm q.i k):=by
     show((xq FC).num _&&((decide (_=(0:Int))&&true)&&((decide (_=(0:Int))&&true)&&!(decide (_=(1:Int))&&true))))=_
     rw[e24 FC rfl,e75,e26,e27,made.eG,afg,afg,afg]
     rfl
    simp only[afr,agj,agq]
    rw[eN,r0 (k+1) 2 _ rfl j hj,ss j]
    unfold a3h
    cases hp:setB (D.stm q.i k)with
    |false=>rw[aeS,r0 k 2 _ rfl j hj,agw];show _=_+(0:Int);omega
    |true=>rw[aeW,r0 k 12 _ rfl j hj,afY];rfl
   ·rw[e24 FC rfl,e25,r0 (k+1) 3 _ rfl j hj,r0 k 3 _ rfl j hj]
    show b2i ((ctK D C q.i (k+1)).i j)=1↔(_\/b2i ((ctK D C q.i k).i j)=1)
    rw[si j,made.mg,made.mg]
    unfold isS PW
    rw[afJ,aeI,ag8]
    exact Or.comm
 ·refine bI JB (bC (@aX (fnB w D (made.atS q.i _) (mI D C q.i _)) _ _ (aS h _ _) (dN h (q:=made.atS q.i _) hi _))) (bY (made.atS q.i (D.blk q.i).st.length) q rfl _ _) (L:=L3) ?_ (aK D _ _) (λp hp=>by cases hp) (λu hu=>?_) rfl (bF f bD)
  ·exact((dU h _ (fit _ (aeM _)) _).pin (i:=6) (c:=1) (show b2i (decide ((q.i:Int)<D.bs.length))=1 from(dh _).2 (by omega))).pin (i:=23) (c:=0) (show b2i (decide (((D.blk q.i).st.length:Int)<(D.blk q.i).st.length))=0 by rw[af2 (by omega)];rfl)
  ·have e:ctK D C q.i (D.blk q.i).st.length=C.stm (D.blk q.i).st:=by unfold ctK;rw[afq]
   have rr:=r0 (D.blk q.i).st.length
   rw[e]at rr
   refine eF (dL λj hj=>?_) (eF (dL λj hj=>?_) (eF (dL λj hj=>?_) (iF λj hj=>?_))) u hu
   ·exact(rr 0 _ rfl j hj).trans (h1 j hj).1.symm
   ·exact(rr 1 _ rfl j hj).trans (h1 j hj).2.1.symm
   ·exact(rr 2 _ rfl j hj).trans (h1 j hj).2.2.1.symm
   ·exact(rr 3 _ rfl j hj).trans (h1 j hj).2.2.2.symm
end
def a8I (op:List Value)(C:Ct):List (Nat->Int):=[C.a,C.p,bump C.a (ah op 2),bump C.p (ah op 2),C.s,λj=>b2i (C.i j)]
def XH (op:List Value)(C:Ct):List Int:=cZ (a8I op C)++(vY C.a (ah op 2)++vY C.p (ah op 2))
def mA (D:FnD)(C:Ct)(i k:Nat):List Int:=XH (D.opd i k) (C.opd ((D.blk i).ops.take k))
theorem aef {D:FnD}{q:At}{C:Ct}{M:Int}(h:C.In M)(hM:M<=900000):vJ (NQ trA) (aA (aH D q (XH (D.opd q.i q.m) C))):=by
 refine BF (aK D q _) λt ht=>?_
 have l55:aA (aH D q (XH (D.opd q.i q.m) C)) 55=ah (D.opd q.i q.m) 2:=rfl
 unfold XH at l55 |-
 simp only[trA,aeQ,aeZ,afj]at ht
 rcases ht with rfl|rfl
 ·exact kC (N:=6) (n:=0) rfl rfl (by rw[l55];rfl) rfl (by rw[l55];rfl) (by rw[l55];rfl) h.a (by omega)
 ·exact kC (N:=6) (n:=2) rfl rfl (by rw[l55];rfl) rfl (by rw[l55];rfl) (by rw[l55];rfl) h.p (by omega)
def Lp (b:bU)(C:Ct):List (Nat->Int):=
 let C1:=C.stm b.st
 let C2:=(C1.dest (ah b.post 0)).opd b.ops
 [C.a,C.p,C.s,λj=>b2i (C.i j),C1.a,C1.p,C1.s,λj=>b2i (C1.i j),bump C1.a (ah b.pre 3),bump C1.a (ah b.post 0),C2.a,C2.p]
def a9w (b:bU)(C:Ct):List Int:=cZ (Lp b C)++(vY (C.stm b.st).a (ah b.pre 3)++vY (C.stm b.st).a (ah b.post 0))
def mB' (D:FnD)(i:Nat):List Int:=a9w (D.blk i) (Ct.at D i)
theorem ae0 {D:FnD}{i:Nat}{M:Int}(h:(Ct.at D i).In M)(hM:M+3*(D.blk i).st.length<=900000):vJ (NQ trO) (aA (aH D (atB i) (mB' D i))):=by
 refine BF (aK D _ _) λt ht=>?_
 have l11:aA (aH D (atB i) (mB' D i)) 11=ah (D.blk i).pre 3:=rfl
 have l18:aA (aH D (atB i) (mB' D i)) 18=ah (D.blk i).post 0:=rfl
 have h1:=In.stm h (D.blk i).st
 unfold mB' a9w at l11 l18 |-
 simp only[trO,aeQ,aeZ,afj]at ht
 rcases ht with rfl|rfl
 ·exact kC (N:=12) (n:=0) rfl rfl (by rw[l11];rfl) rfl (by rw[l11];rfl) (by rw[l11];rfl) h1.a (by omega)
 ·exact kC (N:=12) (n:=2) rfl rfl (by rw[l18];rfl) rfl (by rw[l18];rfl) (by rw[l18];rfl) h1.a (by omega)
def Dp (D:FnD)(t:Nat):Bool:=!(Ct.fn D).i t||(decide (D.p<t)&&(decide ((Ct.fn D).a t=2)&&(decide ((Ct.fn D).p t=1)&&decide ((Ct.fn D).s t=1))))
def sO (D:FnD):Bool:=(List.range 16).all (Dp D)
def mF (D:FnD):List Int:=cZ [(Ct.fn D).a,(Ct.fn D).p,(Ct.fn D).s,λj=>b2i ((Ct.fn D).i j)]
section
variable {w:World} {v:Value} {D:FnD} (h:aZ w v D)
include h
theorem args {C:Ct}{M:Int}(hC:C.In M)(hM:M<=100000){q:At}{m:List Int}(hi:q.i<D.bs.length)(hB:D.bs.length<=1000)(hA:(D.blk q.i).ops.length<=1000)(hok:((D.blk q.i).ops.all λel=>(aY 0).val el)=true)
  (h0:∀j,j<16->aA (aH D q m) (nm 9 j)=C.a j/\aA (aH D q m) (nm 5 j)=C.p j/\aA (aH D q m) (nm 6 j)=C.s j/\aA (aH D q m) (nm 7 j)=b2i (C.i j))
  (h1:∀j,j<16->aA (aH D q m) (nm 10 j)=(C.opd (D.blk q.i).ops).a j/\aA (aH D q m) (nm 11 j)=(C.opd (D.blk q.i).ops).p j):
  ∀K (ok:aC K (fnB w D q m).rho (fnB w D q m).sig),@aO ((fnB w D q m).aF K ok) Tryz.prog (rowA K) iR:=by
 intro K ok
 have fit:∀k,k<=(D.blk q.i).ops.length->Fits D (made.atM q.i k):=λk hk=>iL ⟨by show q.i<=1000;omega,afb _,by show k<=1000;omega,afb _⟩
 have okk:=(iW (D.blk q.i).ops [] λel=>(aY 0).val el).2 hok
 have r0:∀k b F,(a8I (D.opd q.i k) (C.opd ((D.blk q.i).ops.take k)))[b]? =some F->∀j,j<16->(fnB w D (made.atM q.i k) (mA D C q.i k)).rho (nm b j)=F j:=λk b F e j hj=>gG e hj
 have us:∀u∈us1,iQ (fnB w D q m) (fnB w D (made.atM q.i 0) (mA D C q.i 0)) u:=λu hu=>by
  rcases aeQ.1 hu with rfl|hu
  ·exact dM λr v hv=>hv
  refine eF (dL λj hj=>?_) (eF (dL λj hj=>?_) (eF (dL λj hj=>?_) (iF λj hj=>?_))) u hu
  ·exact(h0 j hj).1.trans ((r0 0 0 _ rfl j hj).trans (by show C.a j+0=_;omega)).symm
  ·exact(h0 j hj).2.1.trans ((r0 0 1 _ rfl j hj).trans (by show C.p j+0=_;omega)).symm
  ·exact(h0 j hj).2.2.1.trans (r0 0 4 _ rfl j hj).symm
  ·exact(h0 j hj).2.2.2.trans (r0 0 5 _ rfl j hj).symm
 refine @dn _ _ (λk=>fnB w D (made.atM q.i k) (mA D C q.i k)) iR _ _ hdA _ _ (λe=>by cases e) (D.blk q.i).ops.length (bY q (made.atM q.i 0) rfl _ _) us (λk hk=>?_) ?_ 2 K ok
 ·have rg:=J7 (Jc h hi hk).1 (okk k hk)
  refine bI CJ (bC (@aX (fnB w D (made.atM q.i k) (mA D C q.i k)) _ _ (aS h _ _) (@aX (fnB w D (made.atM q.i k) (mA D C q.i k)) _ _ (dN h (q:=made.atM q.i k) hi _) (Gj h (q:=made.atM q.i k) hi hk _)))) (bY (made.atM q.i k) (made.atM q.i (k+1)) rfl _ _) (L:=LA) ?_
   (aef (q:=made.atM q.i k) (In.opd hC _) (by have:((D.blk q.i).ops.take k).length<=1000:=(by rw[afu];omega);omega)) (λp hp=>by cases hp) (λu hu=>?_) rfl (bF fO iR)
  ·have hb:=((dU h (made.atM q.i k) (fit k (by omega)) (mA D C q.i k)).pin (i:=6) (c:=1) (show b2i (decide ((q.i:Int)<D.bs.length))=1 from(dh _).2 (by omega))).pin (i:=52) (c:=1) (show b2i (decide ((k:Int)<(D.blk q.i).ops.length))=1 from(dh _).2 (by omega))
   exact(hb.lo (i:=55) (c:=0) (show 0<=ah (D.opd q.i k) 2 from rg.1)).hi (i:=55) (c:=15) (show ah (D.opd q.i k) 2<=15 from rg.2)
  ·have e53:(fnB w D (made.atM q.i k) (mA D C q.i k)).rho 53=ah (D.opd q.i k) 0:=rfl
   have e56:(fnB w D (made.atM q.i k) (mA D C q.i k)).rho 56=ah (D.opd q.i k) 3:=rfl
   have e57:(fnB w D (made.atM q.i k) (mA D C q.i k)).rho 57=ah (D.opd q.i k) 4:=rfl
   have sa:∀j,(C.opd ((D.blk q.i).ops.take (k+1))).a j=(C.opd ((D.blk q.i).ops.take k)).a j+xZ (D.opd q.i k) j:=λj=>by show C.a j+acc _ _=C.a j+acc _ _+_;rw[nH _ _ [] hk];unfold FnD.opd;omega
   have sp:∀j,(C.opd ((D.blk q.i).ops.take (k+1))).p j=(C.opd ((D.blk q.i).ops.take k)).p j+tV (D.opd q.i k) j:=λj=>by show C.p j+acc _ _=C.p j+acc _ _+_;rw[nH _ _ [] hk];unfold FnD.opd;omega
   rcases aeQ.1 hu with rfl|hu
   ·exact dM λr v hv=>hv
   refine eF (dL λj hj=>?_) (eF (dL λj hj=>?_) (eF (dL λj hj=>?_) (iF λj hj=>?_))) u hu
   ·have eN:Bv.num (fnB w D (made.atM q.i k) (mA D C q.i k)).rho=!decide (ah (D.opd q.i k) 0=1):=by
     show(!(decide (_=(1:Int))&&true))=_
     rw[e53,afg]
    simp only[afr,agj,agq]
    rw[eN,r0 (k+1) 0 _ rfl j hj,sa j]
    unfold xZ
    cases hp:(!decide (ah (D.opd q.i k) 0=1))with
    |false=>rw[aeS,r0 k 0 _ rfl j hj,agw];show _=_+(0:Int);omega
    |true=>rw[aeW,r0 k 2 _ rfl j hj,afY];rfl
   ·have eN:Qp.num (fnB w D (made.atM q.i k) (mA D C q.i k)).rho=CY (D.opd q.i k):=by
     show((decide (_=(3:Int))&&true)&&((decide (_=(0:Int))&&true)&&(decide (_=(0:Int))&&true)))=_
     rw[e53,e56,e57,afg,afg,afg]
     rfl
    simp only[afr,agj,agq]
    rw[eN,r0 (k+1) 1 _ rfl j hj,sp j]
    unfold tV
    cases hp:CY (D.opd q.i k)with
    |false=>rw[aeS,r0 k 1 _ rfl j hj,agw];show _=_+(0:Int);omega
    |true=>rw[aeW,r0 k 3 _ rfl j hj,afY];rfl
   ·exact(r0 k 4 _ rfl j hj).trans (r0 (k+1) 4 _ rfl j hj).symm
   ·exact(r0 k 5 _ rfl j hj).trans (r0 (k+1) 5 _ rfl j hj).symm
 ·refine bI JK (bC (@aX (fnB w D (made.atM q.i _) (mA D C q.i _)) _ _ (aS h _ _) (dN h (q:=made.atM q.i _) hi _))) (bY (made.atM q.i (D.blk q.i).ops.length) q rfl _ _) (L:=LA0) ?_ (aK D _ _) (λp hp=>by cases hp) (λu hu=>?_) rfl (bF fO iR)
  ·exact((dU h _ (fit _ (aeM _)) _).pin (i:=6) (c:=1) (show b2i (decide ((q.i:Int)<D.bs.length))=1 from(dh _).2 (by omega))).pin (i:=52) (c:=0) (show b2i (decide (((D.blk q.i).ops.length:Int)<(D.blk q.i).ops.length))=0 by rw[af2 (by omega)];rfl)
  ·have rr:=r0 (D.blk q.i).ops.length
   rw[afq]at rr
   refine eF (dL λj hj=>?_) (eF (dL λj hj=>?_) (eF (dL λj hj=>?_) (iF λj hj=>?_))) u hu
   ·exact(rr 0 _ rfl j hj).trans (h1 j hj).1.symm
   ·exact(rr 1 _ rfl j hj).trans (h1 j hj).2.symm
   ·exact(rr 4 _ rfl j hj).trans (h0 j hj).2.2.1.symm
   ·exact(rr 5 _ rfl j hj).trans (h0 j hj).2.2.2.symm
theorem fJ {i b:Nat}{G:Nat->Int}(e:(Lp (D.blk i) (Ct.at D i))[b]? =some G){j:Nat}(hj:j<16):(fnB w D (atB i) (mB' D i)).rho (nm b j)=G j:=gG e hj
theorem OI (b:bU)(C1:Ct)(j:Nat):((C1.jmp b).a j=(bif (decide (ah b.pre 0=2)&&!decide (ah b.pre 1=1))then bump C1.a (ah b.pre 3) j else bif decide (ah b.pre 0=4)then((C1.dest (ah b.post 0)).opd b.ops).a j else C1.a j))/\
  ((C1.jmp b).p j=(bif decide (ah b.pre 0=4)then((C1.dest (ah b.post 0)).opd b.ops).p j else C1.p j))/\(C1.jmp b).s j=C1.s j/\(C1.jmp b).i j=C1.i j:=by
 unfold Ct.jmp
 by_cases h2:ah b.pre 0=2
 ·rw[afm h2,afn h2,af2 (show ¬ah b.pre 0=4 by omega)]
  by_cases h1:ah b.pre 1=1
  ·rw[afm h1,afn h1];exact⟨rfl,rfl,rfl,rfl⟩
  ·rw[afc h1,af2 h1];exact⟨rfl,rfl,rfl,rfl⟩
 ·rw[afc h2,af2 h2]
  by_cases h4:ah b.pre 0=4
  ·rw[afm h4,afn h4];exact⟨rfl,rfl,rfl,rfl⟩
  ·rw[afc h4,af2 h4];exact⟨rfl,rfl,rfl,rfl⟩
theorem outer (hs:Sm D)(hok:∀b∈D.bs,made.okB b=true):∀K (ok:aC K (fnB w D (atB 0) (mF D)).rho (fnB w D (atB 0) (mF D)).sig),@aO ((fnB w D (atB 0) (mF D)).aF K ok) Tryz.prog (adg K) gJ:=by
 intro K ok
 have hn:=hs.b
 have okb:∀i,i<D.bs.length->((D.blk i).st.all λst=>dK.val st)=true/\xJ (D.blk i)=true:=λi hi=>by
  have:=hok _ (nR hi)
  unfold made.okB at this
  rwa[aeI]at this
 have hfO:fO≠f:=by decide
 have inat:∀i,i<D.bs.length->(Ct.at D i).In 24000:=λi hi=>In.more (In.at hs (by omega)) (by omega)
 have jf:=λi (hi:i<D.bs.length)=>Bz (sU h hi) (okb i hi).2
 have Qx:∀i,i<D.bs.length->((D.blk i).ops.all λel=>(aY 0).val el)=true:=λi hi=>by
  rcases(jf i hi).2.2 with e|e
  ·exact e
  ·rw[afA e];rfl
 have rI:∀i (hi:i<D.bs.length) K (ok:aC K (fnB w D (atB i) (mB' D i)).rho (fnB w D (atB i) (mB' D i)).sig),@aO ((fnB w D (atB i) (mB' D i)).aF K ok) Tryz.prog (pY K) bD:=λi hi=>
  inner h (inat i hi) (by decide) (q:=atB i) hi (by omega) (by have:=(hs.s _ (nR hi)).1;show(D.blk i).st.length<=1000;omega) (okb i hi).1
   (λj hj=>⟨fJ h (i:=i) (b:=0) rfl hj,fJ h (i:=i) (b:=1) rfl hj,fJ h (i:=i) (b:=2) rfl hj,fJ h (i:=i) (b:=3) (G:=λj=>b2i ((Ct.at D i).i j)) rfl hj⟩) (λj hj=>⟨fJ h (i:=i) (b:=4) rfl hj,fJ h (i:=i) (b:=5) rfl hj,fJ h (i:=i) (b:=6) rfl hj,fJ h (i:=i) (b:=7) (G:=λj=>b2i (((Ct.at D i).stm (D.blk i).st).i j)) rfl hj⟩)
 have rA:∀i (hi:i<D.bs.length) K (ok:aC K (fnB w D (atB i) (mB' D i)).rho (fnB w D (atB i) (mB' D i)).sig),@aO ((fnB w D (atB i) (mB' D i)).aF K ok) Tryz.prog (rowA K) iR:=λi hi=>
  args h (C:=((Ct.at D i).stm (D.blk i).st).dest (ah (D.blk i).post 0)) (In.dest (In.stm (inat i hi) _) _) (by have:=(hs.s _ (nR hi)).1;omega) (q:=atB i) hi (by omega) (by have:=(hs.s _ (nR hi)).2;show(D.blk i).ops.length<=1000;omega) (Qx i hi)
   (λj hj=>⟨fJ h (i:=i) (b:=9) rfl hj,fJ h (i:=i) (b:=5) rfl hj,fJ h (i:=i) (b:=6) rfl hj,fJ h (i:=i) (b:=7) (G:=λj=>b2i (((Ct.at D i).stm (D.blk i).st).i j)) rfl hj⟩) (λj hj=>⟨fJ h (i:=i) (b:=10) rfl hj,fJ h (i:=i) (b:=11) rfl hj⟩)
 have us:∀u∈isU (.xi .i64 4) (.int .i64 0)::(qF 0++(qF 1++(qF 2++y7 3))),iQ (fnB w D (atB 0) (mF D)) (fnB w D (atB 0) (mB' D 0)) u:=λu hu=>by
  rcases aeQ.1 hu with rfl|hu
  ·exact dM λr v hv=>hv
  exact eF (wH λj hj=>fJ h (i:=0) (b:=0) rfl hj) (eF (wH λj hj=>fJ h (i:=0) (b:=1) rfl hj) (eF (wH λj hj=>fJ h (i:=0) (b:=2) rfl hj) (xA λj hj=>(fJ h (i:=0) (b:=3) (G:=λj=>b2i ((Ct.at D 0).i j)) rfl hj).trans rfl))) u hu
 refine @dn _ _ (λi=>fnB w D (atB i) (mB' D i)) gJ _ _ hdO _ _ (λe=>by cases e) D.bs.length (bJ _ _ _ _) us (λi hi=>?_) ?_ 5 K ok
 ·refine bI IZ (fV jA (@aX (fnB w D (atB i) (mB' D i)) _ _ (aS h _ _) (dN h (q:=atB i) hi _)) (rows_ok λK ok p hp=>?_)) (bJ _ _ _ _) (L:=LO) ?_ (ae0 (inat i hi) (by have:=(hs.s _ (nR hi)).1;omega)) (λp hp=>by cases hp) (λu hu=>?_) rfl (λK ok=>qQ (F:=F) (cc:=gJ) λp hp e=>?_)
  ·simp only[aeQ,aeZ,afj]at hp
   rcases hp with rfl|rfl
   ·exact⟨F,Tryz.func106,λc hc=>iH Dc (rI i hi K ok) hc⟩
   ·exact⟨FO,Tryz.func199,λc hc=>iH OU (rA i hi K ok) hc⟩
  ·have hb:=(dU h (atB i) (fD (by omega)) (mB' D i)).pin (i:=6) (c:=1) (show b2i (decide ((i:Int)<D.bs.length))=1 from(dh _).2 (by omega))
   obtain⟨⟨j1,j2⟩,⟨j3,j4⟩,_⟩:=jf i hi
   exact(((hb.lo (i:=11) (c:=0) j1).hi (i:=11) (c:=15) j2).lo (i:=18) (c:=0) j3).hi (i:=18) (c:=15) j4
  ·have e8:(fnB w D (atB i) (mB' D i)).rho 8=ah (D.blk i).pre 0:=rfl
   have e9:(fnB w D (atB i) (mB' D i)).rho 9=ah (D.blk i).pre 1:=rfl
   have eb:brN.num (fnB w D (atB i) (mB' D i)).rho=(decide (ah (D.blk i).pre 0=2)&&!decide (ah (D.blk i).pre 1=1)):=by
    show((decide (_=(2:Int))&&true)&&!(decide (_=(1:Int))&&true))=_
    rw[e8,e9,afg,afg]
   have ec:caN.num (fnB w D (atB i) (mB' D i)).rho=decide (ah (D.blk i).pre 0=4):=by
    show(decide (_=(4:Int))&&true)=_
    rw[e8,afg]
   have rn:∀b G,(Lp (D.blk (i+1)) (Ct.at D (i+1)))[b]? =some G->∀j,j<16->(fnB w D (atB (i+1)) (mB' D (i+1))).rho (nm b j)=G j:=λb G e j hj=>gG e hj
   have hsucc:=FU (D:=D) hi
   have jr:=λj=>OI h (D.blk i) ((Ct.at D i).stm (D.blk i).st) j
   rcases aeQ.1 hu with rfl|hu
   ·exact dM λr v hv=>hv
   refine eF (dL λj hj=>?_) (eF (dL λj hj=>?_) (eF (dL λj hj=>?_) (iF λj hj=>?_))) u hu
   ·simp only[afr,agj,agq,ahj,ahl]
    rw[eb,ec,rn 0 _ rfl j hj,hsucc]
    show _=(((Ct.at D i).stm (D.blk i).st).jmp (D.blk i)).a j
    rw[(jr j).1]
    cases(decide (ah (D.blk i).pre 0=2)&&!decide (ah (D.blk i).pre 1=1))with
    |true=>exact fJ h (i:=i) (b:=8) rfl hj
    |false=>cases decide (ah (D.blk i).pre 0=4)with
     |true=>exact fJ h (i:=i) (b:=10) rfl hj
     |false=>exact fJ h (i:=i) (b:=4) rfl hj
   ·simp only[afr,agj,agq]
    rw[ec,rn 1 _ rfl j hj,hsucc]
    show _=(((Ct.at D i).stm (D.blk i).st).jmp (D.blk i)).p j
    rw[(jr j).2.1]
    cases decide (ah (D.blk i).pre 0=4)with
    |true=>exact fJ h (i:=i) (b:=11) rfl hj
    |false=>exact fJ h (i:=i) (b:=5) rfl hj
   ·rw[rn 2 _ rfl j hj,hsucc]
    show _=(((Ct.at D i).stm (D.blk i).st).jmp (D.blk i)).s j
    rw[(jr j).2.2.1]
    exact fJ h (i:=i) (b:=6) rfl hj
   ·rw[rn 3 _ rfl j hj,hsucc]
    show _=b2i ((((Ct.at D i).stm (D.blk i).st).jmp (D.blk i)).i j)
    rw[(jr j).2.2.2]
    exact fJ h (i:=i) (b:=7) (G:=λj=>b2i (((Ct.at D i).stm (D.blk i).st).i j)) rfl hj
  ·simp only[aeQ,aeZ,afj]at hp
   rcases hp with rfl|rfl
   ·exact rD Nv (rI i hi K ok)
   ·exact absurd e hfO
 ·refine bI Jq (bC (aS h _ _)) (bJ _ _ _ _) (L:=LO0) ?_ (aK D _ _) (λp hp=>by cases hp) (λu hu=>?_) rfl (bF f gJ)
  ·exact(dU h (atB D.bs.length) (fD (by omega)) _).pin (i:=6) (c:=0) (show b2i (decide ((D.bs.length:Int)<D.bs.length))=0 by rw[af2 (by omega)];rfl)
  ·have e:Ct.at D D.bs.length=Ct.fn D:=by unfold Ct.at Ct.fn;rw[afq]
   have rr:∀b G,(Lp (D.blk D.bs.length) (Ct.at D D.bs.length))[b]? =some G->∀j,j<16->(fnB w D (atB D.bs.length) (mB' D D.bs.length)).rho (nm b j)=G j:=λb G e j hj=>gG e hj
   have r2:∀b G,[(Ct.fn D).a,(Ct.fn D).p,(Ct.fn D).s,λj=>b2i ((Ct.fn D).i j)][b]? =some G->∀j,j<16->(fnB w D (atB 0) (mF D)).rho (nm b j)=G j:=λb G e j hj=>by
    have:=gG (D:=D) (q:=atB 0) (tail:=[]) e hj
    rwa[aft]at this
   rw[e]at rr
   refine eF (dL λj hj=>?_) (eF (dL λj hj=>?_) (eF (dL λj hj=>?_) (iF λj hj=>?_))) u hu
   ·exact(rr 0 _ rfl j hj).trans (r2 0 _ rfl j hj).symm
   ·exact(rr 1 _ rfl j hj).trans (r2 1 _ rfl j hj).symm
   ·exact(rr 2 _ rfl j hj).trans (r2 2 _ rfl j hj).symm
   ·exact(rr 3 _ rfl j hj).trans (r2 3 _ rfl j hj).symm
