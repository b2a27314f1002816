/- The reference's Two tells the two-phase locals. The reference's once, as the machine runs it. What the reference's once answers. -/
import Derived.Test.YtnhnelgkcldkbaaGreatDoorFn20
set_option linter.all false
set_option maxRecDepth 100000
noncomputable section
open List renaming range → aia
namespace Go.Proofs.YtnhnelgkcldkbaaGreatDoor
namespace twoR
open Go.RowKit Am
def f:FuncId:=91
def F:Func:=Tryz.f91
def gJ:Code:=dZ F 0
def bD:Code:=dZ F 1
def keep:List (Nat×S):=[(1,.ptr 0 0),(2,.ptr 1 0),(3,.ptr 2 0)]
def a5N:List S:=List.replicate 16 (.bool false)
def hp (n:Nat):Hp:=[(2,⟨lH n,true⟩),(1,⟨a5N,true⟩),(0,⟨bK,true⟩)]
def xP:List (Nat×S):=keep++[(4,.xi .i64 4),(5,.rv 3)]
def hdO:St:=⟨iP F.ntmps (keep++[(4,.xi .i64 4)]),⟨hp 0,3⟩⟩
def hdI:St:=⟨iP F.ntmps (xP++[(6,.xi .i64 21)]),⟨hp 0,3⟩⟩
def sNI:St:=⟨iP F.ntmps xP,⟨hp 1,3⟩⟩
def sNO:St:=⟨iP F.ntmps keep,⟨hp 0,3⟩⟩
def adU:HT:=.by 24 1 .leaf (.by 24 2 (.by 28 4 .leaf (.by 28 5 (.by 30 3 .leaf (.by 30 4 .leaf .leaf)) .leaf)) .leaf)
def usI:List Upd:=isU (.xi .i64 21) (.xi .i64 22)::Ot 0 0 25 (twos.xq twos.FC)
def L1:Lf:=twos.mG (((Lf.of (eH++[])).pin 6 1).pin 23 1) 25
def L3:Lf:=((Lf.of (eH++[])).pin 6 1).pin 23 0
def tbI:Tabs:=cu.app (iJ.app Ym)
theorem lq:aG (dQ (dG gU tbI bg) f dW [] usI ⟨21,0,5⟩ bD hdI .normal hdI) adU L1=true:=by kernel_rfl
theorem JB:aG (dQ (dG gU (cu.app iJ) bg) f dW [] (lJ 1 0) ⟨21,0,5⟩ bD hdI (.exit 2) sNI) .leaf L3=true:=by kernel_rfl
def pY (K:Know):Loops:=jh 8 ⟨21,0,5⟩ (@thU K (isU (.xi .i64 21) (.int .i64 0)::lJ 0 0)) hdI (.exit 2) sNI
def LO:Lf:=(Lf.of (eH++[])).pin 6 1
def LO0:Lf:=(Lf.of (eH++[])).pin 6 0
theorem IZ:aG (dQ (dG gU (cu.app iJ) λK=>dV [(f,pY K)]) f dW [] (isU (.xi .i64 4) (.xi .i64 5)::lJ 0 1) ⟨4,0,3⟩ gJ hdO .normal hdO) .leaf LO=true:=by kernel_rfl
theorem Jq:aG (dQ (dG gU cu bg) f dW [] (lJ 0 0) ⟨4,0,3⟩ gJ hdO (.exit 0) sNO) .leaf LO0=true:=by kernel_rfl
def QS (K:Know):Loops:=jh 4 ⟨4,0,3⟩ (@thU K (isU (.xi .i64 4) (.int .i64 0)::y7 0)) hdO (.exit 0) sNO
def LF:Lf:=Lf.of (eH++[])
theorem nU:aG (lu (dG gU cu λK=>dV [(f,QS K)]) f dW [] [] (λ_=>.a (.g (lH 0))) [.g bK]) .leaf LF=true:=by kernel_rfl
theorem PU:fU (F.body.getD .skip) 0 4=true:=by kernel_rfl
theorem Nv:fU gJ 0 8=true:=by kernel_rfl
theorem Dc:fU (F.body.getD .skip) 1 8=true:=by kernel_rfl
def I (D:FnD)(i k j:Nat):Bool:=(twos.ctK D (twos.Ct.at D i) i k).i j
def mI (D:FnD)(i k:Nat):List Int:=cZ [λj=>b2i (I D i k j)]++[]
def mO (D:FnD)(i:Nat):List Int:=cZ [λj=>b2i ((twos.Ct.at D i).i j),λj=>b2i ((twos.Ct.at D (i+1)).i j)]++[]
def mF (D:FnD):List Int:=cZ [λj=>b2i ((twos.Ct.fn D).i j)]++[]
section
variable {w:World} {v:Value} {D:FnD} (h:aZ w v D)
include h
theorem inner {i:Nat}(hi:i<D.bs.length)(hB:D.bs.length<=1000)(hS:(D.blk i).st.length<=1000)(hok:((D.blk i).st.all λst=>dK.val st)=true):∀K (ok:aC K (fnB w D (atB i) (mO D i)).rho (fnB w D (atB i) (mO D i)).sig),@aO ((fnB w D (atB i) (mO D i)).aF K ok) Tryz.prog (pY K) bD:=by
 intro K ok
 have fit:∀k,k<=(D.blk i).st.length->Fits D (made.atS i k):=λk hk=>iL ⟨by show i<=1000;omega,by show k<=1000;omega,afb _,afb _⟩
 have okk:=(iW (D.blk i).st [] λst=>dK.val st).2 hok
 have r0:∀k j,j<16->(fnB w D (made.atS i k) (mI D i k)).rho (nm 0 j)=b2i (I D i k j):=λk j hj=>gG (D:=D) (q:=made.atS i k) (fs:=[λj=>b2i (I D i k j)]) (tail:=[]) (b:=0) (f:=λj=>b2i (I D i k j)) rfl hj
 have o0:∀j,j<16->(fnB w D (atB i) (mO D i)).rho (nm 0 j)=b2i ((twos.Ct.at D i).i j):=λj hj=>gG (D:=D) (q:=atB i) (fs:=[λj=>b2i ((twos.Ct.at D i).i j),λj=>b2i ((twos.Ct.at D (i+1)).i j)]) (tail:=[]) (b:=0) (f:=λj=>b2i ((twos.Ct.at D i).i j)) rfl hj
 have o1:∀j,j<16->(fnB w D (atB i) (mO D i)).rho (nm 1 j)=b2i ((twos.Ct.at D (i+1)).i j):=λj hj=>gG (D:=D) (q:=atB i) (fs:=[λj=>b2i ((twos.Ct.at D i).i j),λj=>b2i ((twos.Ct.at D (i+1)).i j)]) (tail:=[]) (b:=1) (f:=λj=>b2i ((twos.Ct.at D (i+1)).i j)) rfl hj
 refine @dn _ _ (λk=>fnB w D (made.atS i k) (mI D i k)) bD _ _ hdI _ _ (λe=>by cases e) (D.blk i).st.length (bY (atB i) (made.atS i 0) rfl _ _) (λu hu=>?_) (λk hk=>?_) ?_ 8 K ok
 ·rcases aeQ.1 hu with rfl|hu
  ·exact dM λr v hv=>hv
  exact iF (λj hj=>(o0 j hj).trans ((r0 0 j hj).trans (by show b2i ((twos.Ct.at D i).i j||false)=_;rw[afL])).symm) u hu
 ·obtain⟨_,_,_,si⟩:=twos.Nu (C:=twos.Ct.at D i) hk
  have rg:=Cm (Ah h hi hk).1 (okk k hk) (c:=1) (by decide)
  refine bI lq (bC (@aX (fnB w D (made.atS i k) (mI D i k)) _ _ (aS h _ _) (@aX (fnB w D (made.atS i k) (mI D i k)) _ _ (dN h (q:=made.atS i k) hi _) (Ci h (q:=made.atS i k) hi hk _)))) (bY (made.atS i k) (made.atS i (k+1)) rfl _ _) (L:=L1) ?_ (aK D _ _) (λp hp=>by cases hp) (λu hu=>?_) rfl (bF f bD)
  ·have hb:=((twos.dU h (made.atS i k) (fit k (by omega)) (mI D i k)).pin (i:=6) (c:=1) (show b2i (decide ((i:Int)<D.bs.length))=1 from(dh _).2 (by omega))).pin (i:=23) (c:=1) (show b2i (decide ((k:Int)<(D.blk i).st.length))=1 from(dh _).2 (by omega))
   exact(hb.lo (i:=25) (c:=0) (show 0<=ah (D.stm i k) 1 from rg.1)).hi (i:=25) (c:=15) (show ah (D.stm i k) 1<=15 from rg.2)
  ·rcases aeQ.1 hu with rfl|hu
   ·exact dM λr v hv=>hv
   refine DK (λj hj=>?_) u hu
   have e25:(fnB w D (made.atS i k) (mI D i k)).rho 25=ah (D.stm i k) 1:=rfl
   rw[show(twos.xq twos.FC).num (fnB w D (made.atS i k) (mI D i k)).rho=twos.FC.num (ah (D.stm i k))from yY (made.atS i k) _ rfl,e25,r0 (k+1) j hj,r0 k j hj]
   unfold I
   rw[si j,made.mg,made.mg]
   unfold twos.isS twos.PW
   rw[afJ,aeI,ag8]
   exact Or.comm
 ·refine bI JB (bC (@aX (fnB w D (made.atS i _) (mI D i _)) _ _ (aS h _ _) (dN h (q:=made.atS i _) hi _))) (bY (made.atS i (D.blk i).st.length) (atB i) rfl _ _) (L:=L3) ?_ (aK D _ _) (λp hp=>by cases hp) (λu hu=>?_) rfl (bF f bD)
  ·exact((twos.dU h _ (fit _ (aeM _)) _).pin (i:=6) (c:=1) (show b2i (decide ((i:Int)<D.bs.length))=1 from(dh _).2 (by omega))).pin (i:=23) (c:=0) (show b2i (decide (((D.blk i).st.length:Int)<(D.blk i).st.length))=0 by rw[af2 (by omega)];rfl)
  ·refine iF (λj hj=>(r0 _ j hj).trans (Eq.trans ?_ (o1 j hj).symm)) u hu
   have e:twos.ctK D (twos.Ct.at D i) i (D.blk i).st.length=(twos.Ct.at D i).stm (D.blk i).st:=by unfold twos.ctK;rw[afq]
   unfold I
   rw[e,twos.FU hi]
   exact congrArg b2i (twos.OI h (D.blk i) ((twos.Ct.at D i).stm (D.blk i).st) j).2.2.2.symm
theorem outer (hs:twos.Sm D)(hok:∀b∈D.bs,made.okB b=true):∀K (ok:aC K (fnB w D (atB 0) (mF D)).rho (fnB w D (atB 0) (mF D)).sig),@aO ((fnB w D (atB 0) (mF D)).aF K ok) Tryz.prog (QS K) gJ:=by
 intro K ok
 have hn:=hs.b
 have okb:∀i,i<D.bs.length->((D.blk i).st.all λst=>dK.val st)=true:=λi hi=>by
  have:=hok _ (twos.nR hi)
  unfold made.okB at this
  rw[aeI]at this
  exact this.1
 have o0:∀i j,j<16->(fnB w D (atB i) (mO D i)).rho (nm 0 j)=b2i ((twos.Ct.at D i).i j):=λi j hj=>gG (D:=D) (q:=atB i) (fs:=[λj=>b2i ((twos.Ct.at D i).i j),λj=>b2i ((twos.Ct.at D (i+1)).i j)]) (tail:=[]) (b:=0) (f:=λj=>b2i ((twos.Ct.at D i).i j)) rfl hj
 have o1:∀i j,j<16->(fnB w D (atB i) (mO D i)).rho (nm 1 j)=b2i ((twos.Ct.at D (i+1)).i j):=λi j hj=>gG (D:=D) (q:=atB i) (fs:=[λj=>b2i ((twos.Ct.at D i).i j),λj=>b2i ((twos.Ct.at D (i+1)).i j)]) (tail:=[]) (b:=1) (f:=λj=>b2i ((twos.Ct.at D (i+1)).i j)) rfl hj
 have rI:∀i (hi:i<D.bs.length) K (ok:aC K (fnB w D (atB i) (mO D i)).rho (fnB w D (atB i) (mO D i)).sig),@aO ((fnB w D (atB i) (mO D i)).aF K ok) Tryz.prog (pY K) bD:=λi hi=>
  inner h hi (by omega) (by have:=(hs.s _ (twos.nR hi)).1;omega) (okb i hi)
 refine @dn _ _ (λi=>fnB w D (atB i) (mO D i)) gJ _ _ hdO _ _ (λe=>by cases e) D.bs.length (bJ _ _ _ _) (λu hu=>?_) (λi hi=>?_) ?_ 4 K ok
 ·rcases aeQ.1 hu with rfl|hu
  ·exact dM λr v hv=>hv
  exact xA (λj hj=>o0 0 j hj) u hu
 ·refine bI IZ (fV jA (@aX (fnB w D (atB i) (mO D i)) _ _ (aS h _ _) (dN h (q:=atB i) hi _)) (rows_ok (T:=λK=>[(f,pY K)]) λK ok p hp=>?_)) (bJ _ _ _ _) (L:=LO) ?_ (aK D _ _) (λp hp=>by cases hp) (λu hu=>?_) rfl (λK ok=>qQ (F:=F) (cc:=gJ) λp hp e=>?_)
  ·obtain rfl:=aeR.1 hp
   exact⟨F,Tryz.func91,λc hc=>iH Dc (rI i hi K ok) hc⟩
  ·exact(twos.dU h (atB i) (fD (by omega)) (mO D i)).pin (i:=6) (c:=1) (show b2i (decide ((i:Int)<D.bs.length))=1 from(dh _).2 (by omega))
  ·rcases aeQ.1 hu with rfl|hu
   ·exact dM λr v hv=>hv
   exact iF (λj hj=>(o1 i j hj).trans (o0 (i+1) j hj).symm) u hu
  ·obtain rfl:=aeR.1 hp
   exact rD Nv (rI i hi K ok)
 ·refine bI Jq (bC (aS h _ _)) (bJ _ _ _ _) (L:=LO0) ?_ (aK D _ _) (λp hp=>by cases hp) (λu hu=>?_) rfl (bF f gJ)
  ·exact(twos.dU h (atB D.bs.length) (fD (by omega)) _).pin (i:=6) (c:=0) (show b2i (decide ((D.bs.length:Int)<D.bs.length))=0 by rw[af2 (by omega)];rfl)
  ·have e:twos.Ct.at D D.bs.length=twos.Ct.fn D:=by unfold twos.Ct.at twos.Ct.fn;rw[afq]
   exact iF (λj hj=>(o0 _ j hj).trans (by
    rw[e]
    exact(gG (D:=D) (q:=atB 0) (fs:=[λj=>b2i ((twos.Ct.fn D).i j)]) (tail:=[]) (b:=0) (f:=λj=>b2i ((twos.Ct.fn D).i j)) rfl hj).symm)) u hu
theorem a5B (hs:twos.Sm D)(hok:∀b∈D.bs,made.okB b=true):bM f [v] w (twos.isV D):=by
 refine jM h nU (fV jA (aS h (atB 0) (mF D)) (rows_ok (T:=λK=>[(f,QS K)]) λK ok p hp=>?_)) (twos.dU h (atB 0) (fD (by omega)) _) (aK D _ _) (λp hp=>by cases hp) (λr x hx=>?_)
 ·obtain rfl:=aeR.1 hp
  exact⟨F,Tryz.func91,λc hc=>iH PU (outer h hs hok K ok) hc⟩
 ·obtain⟨us,rfl,hus⟩:=hx
  unfold twos.isV
  congr 2
  refine agT λj=>?_
  by_cases hj:j<16
  ·have hb:nth (lH 0) j=some (.xe [(nm 0 j,1)]):=by
    rw[aI]
    unfold lH
    rw[aeT,afH hj]
    rfl
   obtain⟨u,hu,hv⟩:=au.nth hus hb
   rw[hu,aeT,afH hj]
   have hv:u=.bool (decide (aA (aH D (atB 0) (mF D)) (nm 0 j)=1)||false):=hv
   rw[hv,show aA (aH D (atB 0) (mF D)) (nm 0 j)=b2i ((twos.Ct.fn D).i j)from gG (D:=D) (q:=atB 0) (fs:=[λj=>b2i ((twos.Ct.fn D).i j)]) (tail:=[]) (b:=0) (f:=λj=>b2i ((twos.Ct.fn D).i j)) rfl hj,made.eG,afL]
   rfl
  ·have hl:us.length=16:=by have:=hus.len;simp[lH]at this;omega
   rw[afT (by omega),afT (by simp;omega)]
end
end twoR
namespace onceR
open Go.RowKit Am
def f:FuncId:=92
def F:Func:=Tryz.f92
def fP:FuncId:=147
def FP:Func:=Tryz.f147
def gJ:Code:=dZ F 0
def bD:Code:=dZ F 1
def iR:Code:=dZ FP 0
def xi (n:Nat):S:=.xi .i64 n
def lit (t:Nat):S:=.int .i64 t
def hp:Hp:=[(0,⟨bK,true⟩)]
def keep (t:Nat):List (Nat×S):=[(1,lit t),(2,.ptr 0 0),(4,.bool false)]
def cts (a b c:Nat):List (Nat×S):=[(5,xi a),(6,xi b),(7,xi c)]
def xP (t:Nat):List (Nat×S):=keep t++[(8,xi 4),(9,.rv 3)]
def hdO (t:Nat):St:=⟨iP F.ntmps (keep t++(cts 93 94 95++[(8,xi 4)])),⟨hp,1⟩⟩
def sNO (t:Nat):St:=⟨iP F.ntmps (keep t++cts 93 94 95),⟨hp,1⟩⟩
def hdI (t:Nat):St:=⟨iP F.ntmps (xP t++(cts 93 94 95++[(10,xi 21)])),⟨hp,1⟩⟩
def sNI (t:Nat):St:=⟨iP F.ntmps (xP t++cts 96 97 98),⟨hp,1⟩⟩
def hdA (t:Nat):St:=⟨iP FP.ntmps [(0,.rv 4),(1,lit t),(4,.int .i64 0),(5,xi 77),(6,xi 50)],⟨[],0⟩⟩
def sNA (t:Nat):St:=⟨iP FP.ntmps [(5,xi 101)],⟨[],0⟩⟩
def e1 (i:Nat)(c:Int)(t:HT):HT:=.by i c .leaf (.by i (c+1) t .leaf)
def abS (t:Nat):E:=ands [twos.xq twos.FC,isE 25 t,isE 26 0,isE 27 0,.not (isE 41 t)]
def acN (t:Nat):E:=ands [twos.xq twos.Jv,isE 33 t]
def pick (y:Nat)(es:List E)(a b:Nat):Upd:=⟨xi y,es,λbs=>bif bs.headD false then xi a else xi b⟩
def usI (t:Nat):List Upd:=[isU (xi 21) (xi 22),pick 93 [abS t] 97 93,pick 94 [acN t] 98 94,isU (xi 95) (xi 96)]
def a0J (t:Nat):HT:=e1 30 3 (e1 25 t (e1 26 0 (e1 27 0 (e1 41 t .leaf))))
def a9R (t:Nat):HT:=e1 31 3 (e1 32 0 (e1 33 t (e1 34 0 (e1 35 0 .leaf))))
def stT (t:Nat):HT:=.by 24 1 .leaf (.by 24 2 (.by 28 1 .leaf (.by 28 2 (a9R t) (.by 28 4 .leaf (.by 28 5 (a0J t) .leaf)))) .leaf)
def rO:aU:=nJ occurs.f [.g lV] (.a (.g (bV 0)))
def L1:Lf:=((Lf.of (eH++[])).pin 6 1).pin 23 1
def L3:Lf:=((Lf.of (eH++[])).pin 6 1).pin 23 0
def tbI:Tabs:=cu.app (iJ.app Ym)
def fxI (t:Nat):Fx:=⟨[(93,1,97),(94,1,98),(94,0,94)],{ dW.xt with sm:=[(95,nm 0 t,96)] }⟩
def lq (t:Nat):Bool:=aG (dQ (dG (λ_=>rO) tbI bg) f (fxI t) [(YU,true)] (usI t) ⟨21,0,5⟩ bD (hdI t) .normal (hdI t)) (stT t) L1
def JB (t:Nat):Bool:=aG (dQ (dG gU (cu.app iJ) bg) f dW [] [isU (xi 96) (xi 93),isU (xi 97) (xi 94),isU (xi 98) (xi 95)] ⟨21,0,5⟩ bD (hdI t) (.exit 2) (sNI t)) .leaf L3
def Qp (t:Nat):E:=ands [isE 53 3,isE 56 0,isE 57 0,isE 55 t]
def usA (t:Nat):List Upd:=[isU (xi 50) (xi 51),pick 77 [Qp t] 78 77]
def opT (t:Nat):HT:=e1 53 3 (e1 54 0 (e1 55 t (e1 56 0 (e1 57 0 .leaf))))
def fxA:Fx:=⟨[(77,1,78)],dW.xt⟩
def LA:Lf:=((Lf.of (eH++[])).pin 6 1).pin 52 1
def LA0:Lf:=((Lf.of (eH++[])).pin 6 1).pin 52 0
def CJ (t:Nat):Bool:=aG (dQ (dG gU (cu.app (iJ.app a2s)) bg) fP fxA [(occJump.okN,true)] (usA t) ⟨21,0,5⟩ iR (hdA t) .normal (hdA t)) (opT t) LA
def JK (t:Nat):Bool:=aG (dQ (dG gU (cu.app iJ) bg) fP dW [] [isU (xi 101) (xi 77)] ⟨21,0,5⟩ iR (hdA t) (.exit 0) (sNA t)) .leaf LA0
def pY (t:Nat)(K:Know):Loops:=jh 10 ⟨21,0,5⟩ (@thU K [isU (xi 21) (.int .i64 0),isU (xi 93) (xi 93),isU (xi 94) (xi 94),isU (xi 95) (xi 95)]) (hdI t) (.exit 2) (sNI t)
def rowA (t:Nat)(K:Know):Loops:=jh 4 ⟨21,0,5⟩ (@thU K [isU (xi 50) (.int .i64 0),isU (xi 77) (.int .i64 0)]) (hdA t) (.exit 0) (sNA t)
def rOJ:aU:=nJ occJump.f [.g nT] (.a (.g (bV 0)))
def fxO (t:Nat):Fx:=⟨[],{ dW.xt with sm:=[(98,nm 0 t,99),(97,101,100)] }⟩
def usO:List Upd:=[isU (xi 4) (xi 5),isU (xi 93) (xi 96),pick 94 [isE 8 4] 100 97,isU (xi 95) (xi 99)]
def LO:Lf:=(Lf.of (eH++[])).pin 6 1
def LO0:Lf:=(Lf.of (eH++[])).pin 6 0
def IZ (t:Nat):Bool:=aG (dQ (dG (λ_=>rOJ) (cu.app iJ) λK=>dV [(f,pY t K),(fP,rowA t K)]) f (fxO t) [] usO ⟨4,0,3⟩ gJ (hdO t) .normal (hdO t)) (e1 8 4 .leaf) LO
def Jq (t:Nat):Bool:=aG (dQ (dG gU cu bg) f dW [] [isU (xi 93) (xi 93),isU (xi 94) (xi 94),isU (xi 95) (xi 95)] ⟨4,0,3⟩ gJ (hdO t) (.exit 0) (sNO t)) .leaf LO0
def QS (t:Nat)(K:Know):Loops:=jh 6 ⟨4,0,3⟩ (@thU K [isU (xi 4) (.int .i64 0),isU (xi 93) (.int .i64 0),isU (xi 94) (.int .i64 0),isU (xi 95) (.int .i64 0)]) (hdO t) (.exit 0) (sNO t)
def LF:Lf:=Lf.of (eH++List.replicate 19 twos.Fv)
def a1S:E:=ands [isE 93 1,isE 94 1,isE 95 2]
def QH (t:Nat):Bool:=aG (lu (dG gU cu λK=>dV [(f,QS t K)]) f dW [] [a1S] (λbs=>V.s (.bool (bs.headD false))) [.g bK,.s (lit t)]) (e1 93 1 (e1 94 1 (e1 95 2 .leaf))) (LF.hi 0 ((t:Int)-1))
def runN (t:Nat):Bool:=aG (lu (dG gU cu bg) f dW [] [] (λ_=>V.s (.bool false)) [.g bK,.s (lit t)]) .leaf (LF.lo 0 t)
theorem a5o:lq 0=true:=by kernel_rfl
theorem a6f:lq 1=true:=by kernel_rfl
theorem a7u:lq 2=true:=by kernel_rfl
theorem a8o:lq 3=true:=by kernel_rfl
theorem a5K:lq 4=true:=by kernel_rfl
theorem a7y:lq 5=true:=by kernel_rfl
theorem a7N:lq 6=true:=by kernel_rfl
theorem a8q:lq 7=true:=by kernel_rfl
theorem a8m:lq 8=true:=by kernel_rfl
theorem a6r:lq 9=true:=by kernel_rfl
theorem a1Y:lq 10=true:=by kernel_rfl
theorem a2Q:lq 11=true:=by kernel_rfl
theorem a1u:lq 12=true:=by kernel_rfl
theorem a4B:lq 13=true:=by kernel_rfl
theorem a0V:lq 14=true:=by kernel_rfl
theorem a1o:lq 15=true:=by kernel_rfl
theorem a0S:∀t,t<16->lq t=true:=by
 intro t h
 match t,h with
 |0,_=>exact a5o
 |1,_=>exact a6f
 |2,_=>exact a7u
 |3,_=>exact a8o
 |4,_=>exact a5K
 |5,_=>exact a7y
 |6,_=>exact a7N
 |7,_=>exact a8q
 |8,_=>exact a8m
 |9,_=>exact a6r
 |10,_=>exact a1Y
 |11,_=>exact a2Q
 |12,_=>exact a1u
 |13,_=>exact a4B
 |14,_=>exact a0V
 |15,_=>exact a1o
 |n+16,h=>exact absurd h (by omega)
theorem a4o:((aia 16).all JB)=true:=by kernel_rfl
theorem a1N:((aia 16).all CJ)=true:=by kernel_rfl
theorem a2o:((aia 16).all JK)=true:=by kernel_rfl
theorem a3f:((aia 16).all IZ)=true:=by kernel_rfl
theorem a4E:((aia 16).all Jq)=true:=by kernel_rfl
theorem a6Q:((aia 16).all QH)=true:=by kernel_rfl
theorem a5y:((aia 16).all runN)=true:=by kernel_rfl
theorem PU:fU (F.body.getD .skip) 0 6=true:=by kernel_rfl
theorem Nv:fU gJ 0 10=true:=by kernel_rfl
theorem Dc:fU (F.body.getD .skip) 1 10=true:=by kernel_rfl
theorem OU:fU (FP.body.getD .skip) 0 4=true:=by kernel_rfl
open twos (Ct)
theorem qE {b1 b2:Base}{y x:Nat}(e:b1.rho x=b2.rho y):iQ b1 b2 (isU (xi y) (xi x)):=by
 intro r v hv
 have hv:v=.int .i64 (b1.rho x):=hv
 show v=.int .i64 (b2.rho y)
 rw[hv,e]
theorem G7 {b1 b2:Base}{y:Nat}(e:b2.rho y=0):iQ b1 b2 (isU (xi y) (.int .i64 0)):=by
 intro r v hv
 have hv:v=.int .i64 0:=hv
 show v=.int .i64 (b2.rho y)
 rw[hv,e]
theorem FT {b1 b2:Base}{y a b:Nat}{e:E}(h:(bif e.num b1.rho then b1.rho a else b1.rho b)=b2.rho y):iQ b1 b2 (pick y [e] a b):=by
 intro r v hv
 have hv:@VS b1 r (bif e.num b1.rho then xi a else xi b) v:=hv
 show v=.int .i64 (b2.rho y)
 rw[<-h]
 cases he:e.num b1.rho with
 |true=>rw[he]at hv;exact hv
 |false=>rw[he]at hv;exact hv
theorem lN {D:FnD}{q:At}{G:Nat->Int}{tl:List Int}(j:Nat):aA (aH D q (cZ [G]++tl)) (93+j)=aA tl j:=by
 rw[show 93+j=77+(16*1+j)by omega]
 exact CQ (fs:=[G]) rfl j
theorem ad6 {D:FnD}{q:At}{G:Nat->Int}{tl:List Int}{j:Nat}(hj:j<16):aA (aH D q (cZ [G]++tl)) (nm 0 j)=G j:=gG (fs:=[G]) (b:=0) rfl hj
def MP (D:FnD)(t:Nat):Bool:=decide (D.p<t)&&(decide ((Ct.fn D).s t=1)&&(decide ((Ct.fn D).p t=1)&&decide ((Ct.fn D).a t=2)))
def tI (C:Ct)(G:Nat->Int)(t:Nat):List Int:=[C.s t,C.p t,C.a t,C.a t+G t,C.s t+1,C.p t+1]
def mI (D:FnD)(i t k:Nat):List Int:=cZ [twos.tJ (D.stm i k)]++tI (twos.ctK D (Ct.at D i) i k) (twos.tJ (D.stm i k)) t
def nP (b:bU)(t k:Nat):Int:=acc (λop=>twos.tV op t) (b.ops.take k)
def aP (b:bU)(t:Nat):Int:=acc (λop=>twos.tV op t) b.ops
def mA (b:bU)(t k:Nat):List Int:=[nP b t k,nP b t k+1]
def tO (b:bU)(C C1:Ct)(t:Nat):List Int:=[C.s t,C.p t,C.a t,C1.s t,C1.p t,C1.a t,C1.a t+occJump.pK b t,C1.p t+aP b t,aP b t]
def mO (D:FnD)(t i:Nat):List Int:=cZ [occJump.pK (D.blk i)]++tO (D.blk i) (Ct.at D i) ((Ct.at D i).stm (D.blk i).st) t
def mF (D:FnD)(t:Nat):List Int:=cZ [λ_=>0]++[(Ct.fn D).s t,(Ct.fn D).p t,(Ct.fn D).a t]
theorem ae8 (a b c d:Bool):(a&&(b&&(c&&d)))=((a&&(b&&c))&&d):=by cases a<;>cases b<;>cases c<;>cases d<;>rfl
theorem a5I (st:List Value)(t:Nat):(twos.PW st&&(decide (ah st 1=(t:Int))&&(decide (ah st 2=0)&&(decide (ah st 3=0)&&!decide (ah st 17=(t:Int))))))=(twos.setB st&&decide (ah st 1=(t:Int))):=by
 unfold twos.setB
 by_cases h1:ah st 1=(t:Int)
 ·rw[h1,afn (rfl:(t:Int)=t)];cases twos.PW st<;>cases decide (ah st 2=0)<;>cases decide (ah st 3=0)<;>cases decide (ah st 17=(t:Int))<;>rfl
 ·rw[af2 h1];cases twos.PW st<;>cases decide (ah st 2=0)<;>cases decide (ah st 3=0)<;>cases decide (ah st 17=ah st 1)<;>rfl
theorem a2O {w:World}{v:Value}{D:FnD}(h:aZ w v D)(b:bU)(C1:Ct)(t:Nat)(hno:ah b.pre 0≠4->b.ops=[]):
  (C1.jmp b).a t=C1.a t+occJump.pK b t/\(C1.jmp b).p t=(bif decide (ah b.pre 0=4)then C1.p t+aP b t else C1.p t)/\(C1.jmp b).s t=C1.s t:=by
 obtain⟨ja,jp,js,_⟩:=twos.OI h b C1 t
 refine⟨?_,?_,js⟩
 ·rw[ja]
  unfold occJump.pK occJump.Hf
  by_cases h2:ah b.pre 0=2
  ·rw[afm h2,afn h2,af2 (show ¬ah b.pre 0=4 by omega)]
   by_cases h1:ah b.pre 1=1
   ·rw[afm h1,afn h1];show C1.a t=_;omega
   ·rw[afc h1,af2 h1]
    show C1.a t+_=C1.a t+(0+_)
    omega
  ·rw[afc h2,af2 h2]
   by_cases h4:ah b.pre 0=4
   ·rw[afm h4,afn h4]
    show(C1.a t+b2i _)+acc _ _=C1.a t+(acc _ _+b2i _)
    omega
   ·rw[afc h4,af2 h4,hno h4]
    show C1.a t=C1.a t+0
    omega
 ·rw[jp]
  rfl
section
variable {w:World} {v:Value} {D:FnD} (h:aZ w v D)
include h
theorem BA {F:FuncId}(hF:dJ Tryz.prog F){q:At}{G:Nat->Int}{tl:List Int}{cs:List S}{u:Value}(hu:au (@VA (fnB w D q (cZ [G]++tl)) r0) [.g cs] [u])(h1:[A.g cs].all A.vW=true)(ha:∀w',aZ w' v D->bM F [u] w' (pX G))(K:Know)(ok:aC K (fnB w D q (cZ [G]++tl)).rho (fnB w D q (cZ [G]++tl)).sig):@Sound ((fnB w D q (cZ [G]++tl)).aF K ok) Tryz.prog (nJ F [.g cs] (.a (.g (bV 0)))):=by
 refine @fM ((fnB w D q (cZ [G]++tl)).aF K ok) _ F hF _ _ h1 [u] hu (pX G) (λr=>@vO ((fnB w D q (cZ [G]++tl)).aF K ok) 0 G (λj hj=>gG (D:=D) (q:=q) (fs:=[G]) (tail:=tl) (b:=0) rfl hj) r) λw' hw=>ha w' (h.frz hw)
theorem aaF {t:Nat}(ht:t<16){q:At}{G:Nat->Int}{C:Ct}{M:Int}(hC:C.In M)(hM:M<=900000)(hG:0<=G t/\G t<=1000):vJ (fxI t) (aA (aH D q (cZ [G]++tI C G t))):=by
 have h0:=aK D q (cZ [G]++tI C G t)
 have a0:aA (aH D q (cZ [G]++tI C G t)) 93=C.s t:=lN 0
 have a1:aA (aH D q (cZ [G]++tI C G t)) 94=C.p t:=lN 1
 have a2:aA (aH D q (cZ [G]++tI C G t)) 95=C.a t:=lN 2
 have a3:aA (aH D q (cZ [G]++tI C G t)) 96=C.a t+G t:=lN 3
 have a4:aA (aH D q (cZ [G]++tI C G t)) 97=C.s t+1:=lN 4
 have a5:aA (aH D q (cZ [G]++tI C G t)) 98=C.p t+1:=lN 5
 have b1:=hC.s t
 have b2:=hC.p t
 have b3:=hC.a t
 refine⟨λi c k hm=>?_,⟨h0.xt.lf,λi j k hm=>?_,h0.xt.ld,h0.xt.sr,h0.xt.eq⟩⟩
 ·simp only[fxI,aeQ,aeZ,afj,agf]at hm
  rcases hm with⟨rfl,rfl,rfl⟩|⟨rfl,rfl,rfl⟩|⟨rfl,rfl,rfl⟩
  ·rw[a0,a4];exact⟨rfl,by show(-9223372036854775808:Int)<=_;omega,by show _<=(9223372036854775807:Int);omega⟩
  ·rw[a1,a5];exact⟨rfl,by show(-9223372036854775808:Int)<=_;omega,by show _<=(9223372036854775807:Int);omega⟩
  ·rw[a1];exact⟨by omega,by show(-9223372036854775808:Int)<=_;omega,by show _<=(9223372036854775807:Int);omega⟩
 ·obtain e:=aeR.1 (show(i,j,k)∈[(95,nm 0 t,96)]from hm)
  cases e
  rw[a2,a3,ad6 ht]
  exact⟨rfl,by show(-9223372036854775808:Int)<=_;omega,by show _<=(9223372036854775807:Int);omega⟩
theorem inner {i t:Nat}(ht:t<16)(hi:i<D.bs.length)(hB:D.bs.length<=1000)(hS:(D.blk i).st.length<=1000)(hok:((D.blk i).st.all λst=>dK.val st)=true)(hC:(Ct.at D i).In 24000):
  ∀K (ok:aC K (fnB w D (atB i) (mO D t i)).rho (fnB w D (atB i) (mO D t i)).sig),@aO ((fnB w D (atB i) (mO D t i)).aF K ok) Tryz.prog (pY t K) bD:=by
 intro K ok
 have fit:∀k,k<=(D.blk i).st.length->Fits D (made.atS i k):=λk hk=>iL ⟨by show i<=1000;omega,by show k<=1000;omega,afb _,afb _⟩
 have okk:=(iW (D.blk i).st [] λst=>dK.val st).2 hok
 have n93:∀k,(fnB w D (made.atS i k) (mI D i t k)).rho 93=(twos.ctK D (Ct.at D i) i k).s t:=λk=>lN 0
 have n94:∀k,(fnB w D (made.atS i k) (mI D i t k)).rho 94=(twos.ctK D (Ct.at D i) i k).p t:=λk=>lN 1
 have n95:∀k,(fnB w D (made.atS i k) (mI D i t k)).rho 95=(twos.ctK D (Ct.at D i) i k).a t:=λk=>lN 2
 have n96:∀k,(fnB w D (made.atS i k) (mI D i t k)).rho 96=(twos.ctK D (Ct.at D i) i k).a t+twos.tJ (D.stm i k) t:=λk=>lN 3
 have n97:∀k,(fnB w D (made.atS i k) (mI D i t k)).rho 97=(twos.ctK D (Ct.at D i) i k).s t+1:=λk=>lN 4
 have n98:∀k,(fnB w D (made.atS i k) (mI D i t k)).rho 98=(twos.ctK D (Ct.at D i) i k).p t+1:=λk=>lN 5
 have o93:(fnB w D (atB i) (mO D t i)).rho 93=(Ct.at D i).s t:=lN 0
 have o94:(fnB w D (atB i) (mO D t i)).rho 94=(Ct.at D i).p t:=lN 1
 have o95:(fnB w D (atB i) (mO D t i)).rho 95=(Ct.at D i).a t:=lN 2
 have o96:(fnB w D (atB i) (mO D t i)).rho 96=((Ct.at D i).stm (D.blk i).st).s t:=lN 3
 have o97:(fnB w D (atB i) (mO D t i)).rho 97=((Ct.at D i).stm (D.blk i).st).p t:=lN 4
 have o98:(fnB w D (atB i) (mO D t i)).rho 98=((Ct.at D i).stm (D.blk i).st).a t:=lN 5
 refine @dn _ _ (λk=>fnB w D (made.atS i k) (mI D i t k)) bD _ _ (hdI t) _ _ (λe=>by cases e) (D.blk i).st.length (bY (atB i) (made.atS i 0) rfl _ _) (λu hu=>?_) (λk hk=>?_) ?_ 10 K ok
 ·simp only[aeQ,aeZ,afj]at hu
  rcases hu with rfl|rfl|rfl|rfl
  ·exact dM λr v hv=>hv
  ·exact qE (o93.trans ((n93 0).trans (by show(Ct.at D i).s t+0=_;omega)).symm)
  ·exact qE (o94.trans ((n94 0).trans (by show(Ct.at D i).p t+0=_;omega)).symm)
  ·exact qE (o95.trans ((n95 0).trans (by show(Ct.at D i).a t+0=_;omega)).symm)
 ·obtain⟨sa,sp,ss,_⟩:=twos.Nu (C:=Ct.at D i) hk
  have okS:=okk k hk
  have hl:((D.blk i).st.take k).length<=1000:=by rw[afu];omega
  refine bI (a0S t ht) (fV (BA h ⟨_,Tryz.func146,by kernel_rfl,by kernel_rfl⟩ (occurs.Uw h (made.atS i k) _ hi hk) (by rfl) λw' hw=>occurs.X3 hw hB hS hi hk okS) (@aX (fnB w D (made.atS i k) (mI D i t k)) _ _ (aS h _ _) (@aX (fnB w D (made.atS i k) (mI D i t k)) _ _ (dN h (q:=made.atS i k) hi _) (Ci h (q:=made.atS i k) hi hk _))) pR)
   (bY (made.atS i k) (made.atS i (k+1)) rfl _ _) (L:=L1) ?_ (aaF h ht (twos.In.stm hC _) (by omega) (by have:=twos.UY (D.stm i k) t;omega)) (λp hp=>?_) (λu hu=>?_) rfl (bF f bD)
  ·exact((twos.dU h (made.atS i k) (fit k (by omega)) _).pin (i:=6) (c:=1) (show b2i (decide ((i:Int)<D.bs.length))=1 from(dh _).2 (by omega))).pin (i:=23) (c:=1) (show b2i (decide ((k:Int)<(D.blk i).st.length))=1 from(dh _).2 (by omega))
  ·obtain rfl:=aeR.1 hp
   exact(FW (made.atS i k) _).trans okS
  ·simp only[usI,aeQ,aeZ,afj]at hu
   rcases hu with rfl|rfl|rfl|rfl
   ·exact dM λr v hv=>hv
   ·refine FT ?_
    have e25:(fnB w D (made.atS i k) (mI D i t k)).rho 25=ah (D.stm i k) 1:=rfl
    have e26:(fnB w D (made.atS i k) (mI D i t k)).rho 26=ah (D.stm i k) 2:=rfl
    have e27:(fnB w D (made.atS i k) (mI D i t k)).rho 27=ah (D.stm i k) 3:=rfl
    have e41:(fnB w D (made.atS i k) (mI D i t k)).rho 41=ah (D.stm i k) 17:=rfl
    have eS:(abS t).num (fnB w D (made.atS i k) (mI D i t k)).rho=(twos.setB (D.stm i k)&&decide (ah (D.stm i k) 1=(t:Int))):=by
     show((twos.xq twos.FC).num _&&((decide (_=(t:Int))&&true)&&((decide (_=(0:Int))&&true)&&((decide (_=(0:Int))&&true)&&!(decide (_=(t:Int))&&true)))))=_
     rw[show(twos.xq twos.FC).num (fnB w D (made.atS i k) (mI D i t k)).rho=twos.PW (D.stm i k)from yY (made.atS i k) _ rfl,e25,e26,e27,e41,afg,afg,afg,afg]
     exact a5I _ _
    rw[eS,n93 (k+1),ss t,n93 k,n97 k]
    unfold twos.a3h
    cases(twos.setB (D.stm i k)&&decide (ah (D.stm i k) 1=(t:Int)))with
    |true=>rfl
    |false=>show _=_+(0:Int);rw[aeS];omega
   ·refine FT ?_
    have e33:(fnB w D (made.atS i k) (mI D i t k)).rho 33=ah (D.stm i k) 9:=rfl
    have eS:(acN t).num (fnB w D (made.atS i k) (mI D i t k)).rho=(twos.MN (D.stm i k)&&decide (ah (D.stm i k) 9=(t:Int))):=by
     show((twos.xq twos.Jv).num _&&(decide (_=(t:Int))&&true))=_
     rw[show(twos.xq twos.Jv).num (fnB w D (made.atS i k) (mI D i t k)).rho=twos.MN (D.stm i k)from yY (made.atS i k) _ rfl,e33,afg]
    rw[eS,n94 (k+1),sp t,n94 k,n98 k]
    unfold twos.Rw
    cases(twos.MN (D.stm i k)&&decide (ah (D.stm i k) 9=(t:Int)))with
    |true=>rfl
    |false=>show _=_+(0:Int);rw[aeS];omega
   ·exact qE ((n96 k).trans (((n95 (k+1)).trans (sa t)).symm))
 ·have e:twos.ctK D (Ct.at D i) i (D.blk i).st.length=(Ct.at D i).stm (D.blk i).st:=by unfold twos.ctK;rw[afq]
  refine bI (aeV.1 a4o t (afs.2 ht)) (bC (@aX (fnB w D (made.atS i _) (mI D i t _)) _ _ (aS h _ _) (dN h (q:=made.atS i _) hi _))) (bY (made.atS i (D.blk i).st.length) (atB i) rfl _ _) (L:=L3) ?_ (aK D _ _) (λp hp=>by cases hp) (λu hu=>?_) rfl (bF f bD)
  ·exact((twos.dU h _ (fit _ (aeM _)) _).pin (i:=6) (c:=1) (show b2i (decide ((i:Int)<D.bs.length))=1 from(dh _).2 (by omega))).pin (i:=23) (c:=0) (show b2i (decide (((D.blk i).st.length:Int)<(D.blk i).st.length))=0 by rw[af2 (by omega)];rfl)
  ·simp only[aeQ,aeZ,afj]at hu
   rcases hu with rfl|rfl|rfl
   ·exact qE ((n93 _).trans ((congrArg (λC:Ct=>C.s t) e).trans o96.symm))
   ·exact qE ((n94 _).trans ((congrArg (λC:Ct=>C.p t) e).trans o97.symm))
   ·exact qE ((n95 _).trans ((congrArg (λC:Ct=>C.a t) e).trans o98.symm))
theorem args {i t:Nat}(ht:t<16)(hi:i<D.bs.length)(hB:D.bs.length<=1000)(hA:(D.blk i).ops.length<=1000)(hok:((D.blk i).ops.all λel=>(aY 0).val el)=true):
  ∀K (ok:aC K (fnB w D (atB i) (mO D t i)).rho (fnB w D (atB i) (mO D t i)).sig),@aO ((fnB w D (atB i) (mO D t i)).aF K ok) Tryz.prog (rowA t K) iR:=by
 intro K ok
 have fit:∀k,k<=(D.blk i).ops.length->Fits D (made.atM i k):=λk hk=>iL ⟨by show i<=1000;omega,afb _,by show k<=1000;omega,afb _⟩
 have okk:=(iW (D.blk i).ops [] λel=>(aY 0).val el).2 hok
 have n77:∀k,(fnB w D (made.atM i k) (mA (D.blk i) t k)).rho 77=nP (D.blk i) t k:=λk=>eu (D:=D) (q:=made.atM i k) 0
 have n78:∀k,(fnB w D (made.atM i k) (mA (D.blk i) t k)).rho 78=nP (D.blk i) t k+1:=λk=>eu (D:=D) (q:=made.atM i k) 1
 have o101:(fnB w D (atB i) (mO D t i)).rho 101=aP (D.blk i) t:=lN 8
 refine @dn _ _ (λk=>fnB w D (made.atM i k) (mA (D.blk i) t k)) iR _ _ (hdA t) _ _ (λe=>by cases e) (D.blk i).ops.length (bY (atB i) (made.atM i 0) rfl _ _) (λu hu=>?_) (λk hk=>?_) ?_ 4 K ok
 ·simp only[aeQ,aeZ,afj]at hu
  rcases hu with rfl|rfl
  ·exact dM λr v hv=>hv
  ·exact G7 (n77 0)
 ·have hb:0<=nP (D.blk i) t k/\nP (D.blk i) t k<=1000:=by
   have:=qp (λop=>twos.tV op t) 1 ((D.blk i).ops.take k) λx _=>eU _
   have hl:((D.blk i).ops.take k).length<=1000:=by rw[afu];omega
   unfold nP
   omega
  refine bI (aeV.1 a1N t (afs.2 ht)) (bC (@aX (fnB w D (made.atM i k) (mA (D.blk i) t k)) _ _ (aS h _ _) (@aX (fnB w D (made.atM i k) (mA (D.blk i) t k)) _ _ (dN h (q:=made.atM i k) hi _) (Gj h (q:=made.atM i k) hi hk _)))) (bY (made.atM i k) (made.atM i (k+1)) rfl _ _) (L:=LA) ?_ ?_ (λp hp=>?_) (λu hu=>?_) rfl (bF fP iR)
  ·exact((twos.dU h (made.atM i k) (fit k (by omega)) _).pin (i:=6) (c:=1) (show b2i (decide ((i:Int)<D.bs.length))=1 from(dh _).2 (by omega))).pin (i:=52) (c:=1) (show b2i (decide ((k:Int)<(D.blk i).ops.length))=1 from(dh _).2 (by omega))
  ·refine⟨λa c b hm=>?_,(aK D _ _).xt⟩
   obtain e:=aeR.1 (show(a,c,b)∈[(77,(1:Int),78)]from hm)
   cases e
   rw[show aA (aH D (made.atM i k) (mA (D.blk i) t k)) 77=_ from n77 k,show aA (aH D (made.atM i k) (mA (D.blk i) t k)) 78=_ from n78 k]
   exact⟨rfl,by show(-9223372036854775808:Int)<=_;omega,by show _<=(9223372036854775807:Int);omega⟩
  ·obtain rfl:=aeR.1 hp
   exact(XL (made.atM i k) _ (e:=aY 0) rfl).trans ((E.iD _ _).symm.trans (okk k hk))
  ·simp only[usA,aeQ,aeZ,afj]at hu
   rcases hu with rfl|rfl
   ·exact dM λr v hv=>hv
   ·refine FT ?_
    have e53:(fnB w D (made.atM i k) (mA (D.blk i) t k)).rho 53=ah (D.opd i k) 0:=rfl
    have e55:(fnB w D (made.atM i k) (mA (D.blk i) t k)).rho 55=ah (D.opd i k) 2:=rfl
    have e56:(fnB w D (made.atM i k) (mA (D.blk i) t k)).rho 56=ah (D.opd i k) 3:=rfl
    have e57:(fnB w D (made.atM i k) (mA (D.blk i) t k)).rho 57=ah (D.opd i k) 4:=rfl
    have eN:(Qp t).num (fnB w D (made.atM i k) (mA (D.blk i) t k)).rho=(twos.CY (D.opd i k)&&decide (ah (D.opd i k) 2=(t:Int))):=by
     show((decide (_=(3:Int))&&true)&&((decide (_=(0:Int))&&true)&&((decide (_=(0:Int))&&true)&&(decide (_=(t:Int))&&true))))=_
     rw[e53,e55,e56,e57,afg,afg,afg,afg]
     exact ae8 _ _ _ _
    have sn:nP (D.blk i) t (k+1)=nP (D.blk i) t k+twos.tV (D.opd i k) t:=by unfold nP;rw[nH _ _ [] hk];rfl
    rw[eN,n77 (k+1),sn,n77 k,n78 k]
    unfold twos.tV
    cases(twos.CY (D.opd i k)&&decide (ah (D.opd i k) 2=(t:Int)))with
    |true=>rfl
    |false=>show _=_+(0:Int);rw[aeS];omega
 ·refine bI (aeV.1 a2o t (afs.2 ht)) (bC (@aX (fnB w D (made.atM i _) (mA (D.blk i) t _)) _ _ (aS h _ _) (dN h (q:=made.atM i _) hi _))) (bY (made.atM i (D.blk i).ops.length) (atB i) rfl _ _) (L:=LA0) ?_ (aK D _ _) (λp hp=>by cases hp) (λu hu=>?_) rfl (bF fP iR)
  ·exact((twos.dU h _ (fit _ (aeM _)) _).pin (i:=6) (c:=1) (show b2i (decide ((i:Int)<D.bs.length))=1 from(dh _).2 (by omega))).pin (i:=52) (c:=0) (show b2i (decide (((D.blk i).ops.length:Int)<(D.blk i).ops.length))=0 by rw[af2 (by omega)];rfl)
  ·obtain rfl:=aeR.1 hu
   exact qE ((n77 _).trans ((show nP (D.blk i) t (D.blk i).ops.length=aP (D.blk i) t by unfold nP aP;rw[afq]).trans o101.symm))
