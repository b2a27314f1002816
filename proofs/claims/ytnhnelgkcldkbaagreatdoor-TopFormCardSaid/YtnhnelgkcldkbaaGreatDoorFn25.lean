/- once answers; the reference's Check, as the machine runs it. What the reference's Check answers. -/
import Derived.Test.YtnhnelgkcldkbaaGreatDoorFn23
set_option linter.all false
set_option maxRecDepth 100000
noncomputable section
open List renaming replicate → aia, range → aib
namespace Go.Proofs.YtnhnelgkcldkbaaGreatDoor
namespace onceR
open Go.RowKit Am
open twos (Ct)
section
variable {w:World} {v:Value} {D:FnD} (h:aZ w v D)
include h
theorem outer (hs:twos.Sm D)(hok:∀b∈D.bs,made.okB b=true){t:Nat}(ht:t<16):∀K (ok:aC K (fnB w D (atB 0) (mF D t)).rho (fnB w D (atB 0) (mF D t)).sig),@aO ((fnB w D (atB 0) (mF D t)).aF K ok) Tryz.prog (QS t K) gJ:=by
 intro K ok
 have hn:=hs.b
 have okb:∀i,i<D.bs.length->((D.blk i).st.all λst=>dK.val st)=true/\xJ (D.blk i)=true:=λi hi=>by
  have:=hok _ (twos.nR hi)
  unfold made.okB at this
  rwa[aeI]at this
 have hfP:fP≠f:=by decide
 have inat:∀i,i<D.bs.length->(Ct.at D i).In 24000:=λi hi=>twos.In.more (twos.In.at hs (by omega)) (by omega)
 have jf:=λi (hi:i<D.bs.length)=>Bz (sU h hi) (okb i hi).2
 have jmr:=λi (hi:i<D.bs.length)=>OE (sU h hi) (okb i hi).2
 have Qx:∀i,i<D.bs.length->((D.blk i).ops.all λel=>(aY 0).val el)=true:=λi hi=>by
  rcases(jf i hi).2.2 with e|e
  ·exact e
  ·rw[afA e];rfl
 have sml:∀i,i<D.bs.length->(D.blk i).st.length<=24/\(D.blk i).ops.length<=8:=λi hi=>hs.s _ (twos.nR hi)
 have rI:∀i (hi:i<D.bs.length) K (ok:aC K (fnB w D (atB i) (mO D t i)).rho (fnB w D (atB i) (mO D t i)).sig),@aO ((fnB w D (atB i) (mO D t i)).aF K ok) Tryz.prog (pY t K) bD:=λi hi=>
  inner h ht hi (by omega) (by have:=(sml i hi).1;omega) (okb i hi).1 (inat i hi)
 have rA:∀i (hi:i<D.bs.length) K (ok:aC K (fnB w D (atB i) (mO D t i)).rho (fnB w D (atB i) (mO D t i)).sig),@aO ((fnB w D (atB i) (mO D t i)).aF K ok) Tryz.prog (rowA t K) iR:=λi hi=>
  args h ht hi (by omega) (by have:=(sml i hi).2;omega) (Qx i hi)
 have n93:∀i,(fnB w D (atB i) (mO D t i)).rho 93=(Ct.at D i).s t:=λi=>lN 0
 have n94:∀i,(fnB w D (atB i) (mO D t i)).rho 94=(Ct.at D i).p t:=λi=>lN 1
 have n95:∀i,(fnB w D (atB i) (mO D t i)).rho 95=(Ct.at D i).a t:=λi=>lN 2
 have n96:∀i,(fnB w D (atB i) (mO D t i)).rho 96=((Ct.at D i).stm (D.blk i).st).s t:=λi=>lN 3
 have n97:∀i,(fnB w D (atB i) (mO D t i)).rho 97=((Ct.at D i).stm (D.blk i).st).p t:=λi=>lN 4
 have n98:∀i,(fnB w D (atB i) (mO D t i)).rho 98=((Ct.at D i).stm (D.blk i).st).a t:=λi=>lN 5
 have n99:∀i,(fnB w D (atB i) (mO D t i)).rho 99=((Ct.at D i).stm (D.blk i).st).a t+occJump.pK (D.blk i) t:=λi=>lN 6
 have n100:∀i,(fnB w D (atB i) (mO D t i)).rho 100=((Ct.at D i).stm (D.blk i).st).p t+aP (D.blk i) t:=λi=>lN 7
 have n101:∀i,(fnB w D (atB i) (mO D t i)).rho 101=aP (D.blk i) t:=λi=>lN 8
 refine @dn _ _ (λi=>fnB w D (atB i) (mO D t i)) gJ _ _ (hdO t) _ _ (λe=>by cases e) D.bs.length (bJ _ _ _ _) (λu hu=>?_) (λi hi=>?_) ?_ 6 K ok
 ·simp only[aeQ,aeZ,afj]at hu
  rcases hu with rfl|rfl|rfl|rfl
  ·exact dM λr v hv=>hv
  ·exact G7 (n93 0)
  ·exact G7 (n94 0)
  ·exact G7 (n95 0)
 ·have hO:∀K (ok:aC K (fnB w D (atB i) (mO D t i)).rho (fnB w D (atB i) (mO D t i)).sig),@Sound ((fnB w D (atB i) (mO D t i)).aF K ok) Tryz.prog rOJ:=
   BA h ⟨_,Tryz.func149,by kernel_rfl,by kernel_rfl⟩ (occJump.TQ h (atB i) rfl _ hi) (by rfl) λw' hw=>occJump.Q5 hw hi (by omega) (okb i hi).2
  have sl:=sml i hi
  have bj:=block.Wl (D.blk i) (by omega) t
  have hstm:=twos.In.stm (inat i hi) (D.blk i).st
  have ba:=hstm.a t
  have bp:=hstm.p t
  have bP:0<=aP (D.blk i) t/\aP (D.blk i) t<=1000:=by
   have:=qp (λop=>twos.tV op t) 1 (D.blk i).ops λx _=>eU _
   unfold aP
   omega
  refine bI (aeV.1 a3f t (afs.2 ht)) (fV hO (@aX (fnB w D (atB i) (mO D t i)) _ _ (aS h _ _) (dN h (q:=atB i) hi _)) (rows_ok (T:=λK=>[(f,pY t K),(fP,rowA t K)]) λK ok p hp=>?_)) (bJ _ _ _ _) (L:=LO) ?_ ?_ (λp hp=>by cases hp) (λu hu=>?_) rfl (λK ok=>qQ (F:=F) (cc:=gJ) λp hp e=>?_)
  ·simp only[aeQ,aeZ,afj]at hp
   rcases hp with rfl|rfl
   ·exact⟨F,Tryz.func92,λc hc=>iH Dc (rI i hi K ok) hc⟩
   ·exact⟨FP,Tryz.func147,λc hc=>iH OU (rA i hi K ok) hc⟩
  ·exact(twos.dU h (atB i) (fD (by omega)) _).pin (i:=6) (c:=1) (show b2i (decide ((i:Int)<D.bs.length))=1 from(dh _).2 (by omega))
  ·have h0:=aK D (atB i) (mO D t i)
   refine⟨λa c b hm=>(by cases hm),⟨h0.xt.lf,λa b c hm=>?_,h0.xt.ld,h0.xt.sr,h0.xt.eq⟩⟩
   have hm:(a,b,c)∈[(98,nm 0 t,99),(97,101,100)]:=hm
   simp only[aeQ,aeZ,afj,agf]at hm
   rcases hm with⟨rfl,rfl,rfl⟩|⟨rfl,rfl,rfl⟩
   ·rw[show aA (aH D (atB i) (mO D t i)) 98=_ from n98 i,show aA (aH D (atB i) (mO D t i)) 99=_ from n99 i,show aA (aH D (atB i) (mO D t i)) (nm 0 t)=_ from ad6 ht]
    exact⟨rfl,by show(-9223372036854775808:Int)<=_;omega,by show _<=(9223372036854775807:Int);omega⟩
   ·rw[show aA (aH D (atB i) (mO D t i)) 97=_ from n97 i,show aA (aH D (atB i) (mO D t i)) 100=_ from n100 i,show aA (aH D (atB i) (mO D t i)) 101=_ from n101 i]
    exact⟨rfl,by show(-9223372036854775808:Int)<=_;omega,by show _<=(9223372036854775807:Int);omega⟩
  ·obtain⟨ja,jp,js⟩:=a2O h (D.blk i) ((Ct.at D i).stm (D.blk i).st) t (jmr i hi).2.2
   have hsucc:Ct.at D (i+1)=((Ct.at D i).stm (D.blk i).st).jmp (D.blk i):=twos.FU hi
   simp only[usO,aeQ,aeZ,afj]at hu
   rcases hu with rfl|rfl|rfl|rfl
   ·exact dM λr v hv=>hv
   ·exact qE ((n96 i).trans (by rw[n93 (i+1),hsucc,js]))
   ·refine FT ?_
    have e8:(fnB w D (atB i) (mO D t i)).rho 8=ah (D.blk i).pre 0:=rfl
    have eN:(isE 8 4).num (fnB w D (atB i) (mO D t i)).rho=decide (ah (D.blk i).pre 0=4):=by
     show(decide (_=(4:Int))&&true)=_
     rw[e8,afg]
    rw[eN,n94 (i+1),hsucc,jp,n100 i,n97 i]
   ·exact qE ((n99 i).trans (by rw[n95 (i+1),hsucc,ja]))
  ·simp only[aeQ,aeZ,afj]at hp
   rcases hp with rfl|rfl
   ·exact rD Nv (rI i hi K ok)
   ·exact absurd e hfP
 ·have e:Ct.at D D.bs.length=Ct.fn D:=by unfold Ct.at Ct.fn;rw[afq]
  have f93:(fnB w D (atB 0) (mF D t)).rho 93=(Ct.fn D).s t:=lN 0
  have f94:(fnB w D (atB 0) (mF D t)).rho 94=(Ct.fn D).p t:=lN 1
  have f95:(fnB w D (atB 0) (mF D t)).rho 95=(Ct.fn D).a t:=lN 2
  refine bI (aeV.1 a4E t (afs.2 ht)) (bC (aS h _ _)) (bJ _ _ _ _) (L:=LO0) ?_ (aK D _ _) (λp hp=>by cases hp) (λu hu=>?_) rfl (bF f gJ)
  ·exact(twos.dU h (atB D.bs.length) (fD (by omega)) _).pin (i:=6) (c:=0) (show b2i (decide ((D.bs.length:Int)<D.bs.length))=0 by rw[af2 (by omega)];rfl)
  ·simp only[aeQ,aeZ,afj]at hu
   rcases hu with rfl|rfl|rfl
   ·exact qE ((n93 _).trans (by rw[e,f93]))
   ·exact qE ((n94 _).trans (by rw[e,f94]))
   ·exact qE ((n95 _).trans (by rw[e,f95]))
theorem VL (hs:twos.Sm D)(t:Nat):LF.Holds (aA (aH D (atB 0) (mF D t))) (λ_=>[]):=by
 have hc:=twos.a8W h hs
 have a:=hc.a t
 have p:=hc.p t
 have s:=hc.s t
 have:au InI (aia 16 twos.Fv++aia 3 twos.Fv) (mF D t):=
  gq (a:=aia 16 twos.Fv) (b:=cZ [λ_=>0]) (gq (a:=aia 16 twos.Fv) (c:=[]) (twos.pq λj=>⟨by decide,by decide⟩) trivial)
   ⟨by show(-9223372036854775808:Int)<=_/\_<=(9223372036854775807:Int);omega,by show(-9223372036854775808:Int)<=_/\_<=(9223372036854775807:Int);omega,by show(-9223372036854775808:Int)<=_/\_<=(9223372036854775807:Int);omega,trivial⟩
 have:=lC h (q:=atB 0) (fD (by omega)) this (m2:=[]) (λ_=>[])
 rwa[aft]at this
theorem a2f (hs:twos.Sm D)(hok:∀b∈D.bs,made.okB b=true){t:Nat}(ht:t<16):bM f [v,.int .i64 t] w (.bool (MP D t)):=by
 have hva:au (@VA (fnB w D (atB 0) (mF D t)) r0) [.g bK,.s (lit t)] [v,.int .i64 t]:=⟨wF h (atB 0) _ r0,rfl,trivial⟩
 unfold MP
 by_cases hp:D.p<t
 ·rw[afn hp,afY]
  have hR:jJ Tryz.prog (dG gU cu λK=>dV [(f,QS t K)]) (fnB w D (atB 0) (mF D t)):=fV jA (aS h _ _) (rows_ok (T:=λK=>[(f,QS t K)]) λK ok p hp=>by
   obtain rfl:=aeR.1 hp
   exact⟨F,Tryz.func92,λc hc=>iH PU (outer h hs hok ht K ok) hc⟩)
  have:=jI (b:=fnB w D (atB 0) (mF D t)) (w:=w) (aeM _) (λ_ _=>rfl) hR ((VL h hs t).hi (i:=0) (c:=(t:Int)-1) (show D.p<=(t:Int)-1 by omega)) (aK D _ _) (λp hp=>by cases hp) hva (aeV.1 a6Q t (afs.2 ht))
  have e:a1S.num (fnB w D (atB 0) (mF D t)).rho=(decide ((Ct.fn D).s t=1)&&(decide ((Ct.fn D).p t=1)&&decide ((Ct.fn D).a t=2))):=by
   have f93:(fnB w D (atB 0) (mF D t)).rho 93=(Ct.fn D).s t:=lN 0
   have f94:(fnB w D (atB 0) (mF D t)).rho 94=(Ct.fn D).p t:=lN 1
   have f95:(fnB w D (atB 0) (mF D t)).rho 95=(Ct.fn D).a t:=lN 2
   show((decide (_=(1:Int))&&true)&&((decide (_=(1:Int))&&true)&&(decide (_=(2:Int))&&true)))=_
   rw[f93,f94,f95,afg,afg,afg]
  refine bM.of (b:=fnB w D (atB 0) (mF D t)) (v:=V.s (.bool (a1S.num (fnB w D (atB 0) (mF D t)).rho))) (λr x hx=>?_) this
  rw[e]at hx
  exact hx
 ·rw[af2 hp,agw]
  have:=jI (b:=fnB w D (atB 0) (mF D t)) (w:=w) (aeM _) (λ_ _=>rfl) (bC (aS h (atB 0) (mF D t))) ((VL h hs t).lo (i:=0) (c:=(t:Int)) (show(t:Int)<=D.p by omega)) (aK D _ _) (λp hp=>by cases hp) hva (aeV.1 a5y t (afs.2 ht))
  exact bM.of (b:=fnB w D (atB 0) (mF D t)) (v:=V.s (.bool false)) (λr x hx=>hx) this
end
end onceR
namespace refC
open Go.RowKit Am
def f:FuncId:=41
def F:Func:=Tryz.f41
def iE:Code:=dZ F 0
def fr3:List (Nat×S):=[(1,.ptr 0 0),(2,.int .i64 0),(3,.ptr 1 0)]
def hp:Hp:=[(1,⟨lH 0,true⟩),(0,⟨bK,true⟩)]
def hdT (t:Nat):St:=⟨iP F.ntmps (fr3++[(4,.int .i64 t)]),⟨hp,2⟩⟩
def sN:St:=⟨iP F.ntmps fr3,⟨hp,2⟩⟩
def sR:St:=⟨iP F.ntmps [(2,.int .i64 12)],⟨[],2⟩⟩
def rOn (t:Nat)(b:Bool):aU:=nJ onceR.f [.g bK,.s (.int .i64 t)] (mB b)
def LT:Lf:=Lf.of (eH++aia 16 ivB)
def Jo (lib:aU)(giv:List (E×Bool))(hd:St)(x:X)(s1:St)(hs:HT):Bool:=aG (dQ (dG (λ_=>lib) cu bg) f dW giv [] ⟨93,0,3⟩ iE hd x s1) hs LT
def a1C (t:Nat):Bool:=Jo (rOn t true) [] (hdT t) .normal (hdT (t+1)) (.by (nm 0 t) 1 .leaf .leaf)
def abV (t:Nat):Bool:=Jo (rOn t false) [(isE (nm 0 t) 1,false)] (hdT t) .normal (hdT (t+1)) (.by (nm 0 t) 1 .leaf .leaf)
def ab1 (t:Nat):Bool:=Jo (rOn t false) [(isE (nm 0 t) 1,true)] (hdT t) .ret sR (.by (nm 0 t) 1 .leaf .leaf)
theorem XF:((aib 16).all a1C)=true:=by kernel_rfl
theorem acj:((aib 16).all abV)=true:=by kernel_rfl
theorem a4k:((aib 16).all ab1)=true:=by kernel_rfl
theorem PS:aG (dQ (dG gU cu bg) f dW [] [] ⟨93,0,3⟩ iE (hdT 16) (.exit 0) sN) .leaf LT=true:=by kernel_rfl
def rowT (x:X)(s1:St)(K:Know):Loops:=jh 8 ⟨93,0,3⟩ (@thU K []) (hdT 0) x s1
def lib (l:List (FuncId×V)):Know->aU:=λ_=>FB (l.map λp=>nJ p.1 [.g bK] p.2)
def rL (b:Bool):FuncId×V:=(many.fB,V.s (.bool b))
def rM (b:Bool):FuncId×V:=(madeR.f,V.s (.bool b))
def rT:FuncId×V:=(twoR.f,.a (.g (lH 0)))
def run (l:List (FuncId×V))(rows:Know->List (FuncId×Loops))(n:Int):Bool:=aG (lu (dG (lib l) cu λK=>dV (rows K)) f dW [] [] (λ_=>V.s (.int .i64 n)) [.g bK]) .leaf LT
theorem a9W:run [rL true] (λ_=>[]) 4=true:=by kernel_rfl
theorem aaA:run [rL false,rM false] (λ_=>[]) 8=true:=by kernel_rfl
theorem a5b:run [rL false,rM true,rT] (λK=>[(f,rowT .ret sR K)]) 12=true:=by kernel_rfl
theorem aaw:run [rL false,rM true,rT] (λK=>[(f,rowT (.exit 0) sN K)]) 0=true:=by kernel_rfl
theorem a0t:fU (F.body.getD .skip) 0 8=true:=by kernel_rfl
open twos (Ct)
def Hg (D:FnD)(t:Nat):Bool:=!(Ct.fn D).i t||onceR.MP D t
def MV (D:FnD):Bool:=(aib 16).all (Hg D)
def a5P (D:FnD):Int:=if many.jq D then 4 else if !madeR.vN D then 8 else if !MV D then 12 else 0
def mF (D:FnD):List Int:=cZ [λj=>b2i ((Ct.fn D).i j)]++[]
theorem yc {D:FnD}(h:madeR.vN D=true):∀b∈D.bs,made.okB b=true:=λb hb=>by
 unfold madeR.vN at h
 simp only[aeI]at h
 have h:=aeV.1 h.2.2.2.2 b hb
 unfold block.okB at h
 simp only[aeI]at h
 unfold made.okB
 rw[aeI]
 refine⟨aeV.2 λst hst=>?_,h.2.1⟩
 have:=aeV.1 h.1 st hst
 unfold block.okS at this
 rw[aeI]at this
 exact this.1
theorem a8i (D:FnD)(t:Nat):Hg D t=twos.Dp D t:=by
 unfold Hg twos.Dp onceR.MP
 congr 2
 cases decide ((Ct.fn D).s t=1)<;>cases decide ((Ct.fn D).p t=1)<;>cases decide ((Ct.fn D).a t=2)<;>rfl
section
variable {w:World} {v:Value} {D:FnD} (h:aZ w v D)
include h
theorem XC (hs:many.jq D=false)(ok:∀b∈D.bs,made.okB b=true):twos.Sm D:=by
 obtain⟨_,h2,h3⟩:=check.xW hs
 refine⟨h2,λb hb=>⟨h3 b hb,?_⟩⟩
 have ok:=ok b hb
 unfold made.okB at ok
 rw[aeI]at ok
 exact AV (by rw[<-(h.blk b hb).rJ.len];rfl) ok.2
theorem sZ:LT.Holds (aA (aH D (atB 0) (mF D))) (λ_=>[]):=by
 have:au InI (aia 16 ivB) (mF D):=gq (a:=aia 16 ivB) (c:=[]) (gq (a:=aia 16 ivB) (c:=[]) (twos.pq λj=>sG _) trivial) trivial
 have:=lC h (q:=atB 0) (fD (by omega)) this (m2:=[]) (λ_=>[])
 rwa[aft]at this
theorem a9z {t:Nat}(ht:t<16):aA (aH D (atB 0) (mF D)) (nm 0 t)=b2i ((Ct.fn D).i t):=gG (fs:=[λj=>b2i ((Ct.fn D).i j)]) (b:=0) (f:=λj=>b2i ((Ct.fn D).i j)) rfl ht
theorem last (hs:twos.Sm D)(hok:∀b∈D.bs,made.okB b=true){r:Bool}(hr:MV D=r):∀K (ok:aC K (fnB w D (atB 0) (mF D)).rho (fnB w D (atB 0) (mF D)).sig),@aO ((fnB w D (atB 0) (mF D)).aF K ok) Tryz.prog (rowT (if r then .exit 0 else .ret) (if r then sN else sR) K) iE:=by
 intro K ok
 have hLT:=sZ h
 have rg:∀t,t<16->∀b,onceR.MP D t=b->jJ Tryz.prog (dG (λ_=>rOn t b) cu bg) (fnB w D (atB 0) (mF D)):=λt ht b e=>by
  refine fV (λK ok=>?_) (aS h _ _) pR
  refine @fM ((fnB w D (atB 0) (mF D)).aF K ok) _ onceR.f ⟨_,Tryz.func92,by kernel_rfl,by kernel_rfl⟩ _ _ (by rfl) [v,.int .i64 t] ⟨wF h (atB 0) _ r0,rfl,trivial⟩ (.bool b) (λr=>vmB _ r b) λw' hw=>?_
  rw[<-e]
  exact onceR.a2f (h.frz hw) hs hok ht
 have gv:∀t b,t<16->(Ct.fn D).i t=b->∀p∈[(isE (nm 0 t) 1,b)],p.1.num (aA (aH D (atB 0) (mF D)))=p.2:=λt b ht e p hp=>by
  obtain rfl:=aeR.1 hp
  show(decide (_=(1:Int))&&true)=b
  rw[a9z h ht,made.eG,afg]
  exact e
 have step:∀t,t<16->Hg D t=true->gY Tryz.prog (fnB w D (atB 0) (mF D)) (fnB w D (atB 0) (mF D)) iE (hdT t) .normal (hdT (t+1)):=λt ht e=>by
  cases ho:onceR.MP D t with
  |true=>exact bI (show aG (dQ (dG (λ_=>rOn t true) cu bg) f dW [] [] ⟨93,0,3⟩ iE (hdT t) .normal (hdT (t+1))) (.by (nm 0 t) 1 .leaf .leaf) LT=true from aeV.1 XF t (afs.2 ht)) (rg t ht true ho) (twos.jc _ _) hLT (aK D _ _) (λp hp=>by cases hp) (λu hu=>by cases hu) rfl (bF f iE)
  |false=>
   have hi:(Ct.fn D).i t=false:=by
    unfold Hg at e
    rw[ho,afL,ag3]at e
    exact e
   exact bI (show aG (dQ (dG (λ_=>rOn t false) cu bg) f dW [(isE (nm 0 t) 1,false)] [] ⟨93,0,3⟩ iE (hdT t) .normal (hdT (t+1))) (.by (nm 0 t) 1 .leaf .leaf) LT=true from aeV.1 acj t (afs.2 ht)) (rg t ht false ho) (twos.jc _ _) hLT (aK D _ _) (gv t false ht hi) (λu hu=>by cases hu) rfl (bF f iE)
 cases r with
 |true=>
  refine @CS _ _ _ iE _ _ hdT _ _ (λe=>by cases e) 16 (twos.jc _ _) (λu hu=>by cases hu) (λt ht=>step t ht (aeV.1 hr t (afs.2 ht))) ?_ 8 K ok
  exact bI PS (bC (aS h _ _)) (twos.jc _ _) hLT (aK D _ _) (λp hp=>by cases hp) (λu hu=>by cases hu) rfl (bF f iE)
 |false=>
  rcases jU (Hg D) 16 with hall|⟨N,hN,h0,hn⟩
  ·unfold MV at hr
   rw[aeV.2 λt ht=>hall t (afs.1 ht)]at hr
   cases hr
  ·refine @CS _ _ _ iE _ _ hdT _ _ (λe=>by cases e) N (twos.jc _ _) (λu hu=>by cases hu) (λt ht=>step t (by omega) (h0 t ht)) ?_ 8 K ok
   unfold Hg at hn
   rw[agC,agP]at hn
   exact bI (show aG (dQ (dG (λ_=>rOn N false) cu bg) f dW [(isE (nm 0 N) 1,true)] [] ⟨93,0,3⟩ iE (hdT N) .ret sR) (.by (nm 0 N) 1 .leaf .leaf) LT=true from aeV.1 a4k N (afs.2 hN)) (rg N hN false hn.2) (twos.jc _ _) hLT (aK D _ _) (gv N true hN hn.1) (λu hu=>by cases hu) rfl (bF f iE)
theorem a7j:bM f [v] w (.int .i64 (a5P D)):=by
 have pL:∀b,many.jq D=b->dJ Tryz.prog (rL b).1/\∃u,(∀(b0:Base) r,(b0.rho=(fnB w D (atB 0) (mF D)).rho)->@VV b0 r (rL b).2 u)/\∀w',aZ w' v D->bM (rL b).1 [v] w' u:=λb e=>⟨⟨_,Tryz.func89,by kernel_rfl,by kernel_rfl⟩,.bool b,λ_ _ _=>rfl,λw' hw=>e▸many.Q8 hw⟩
 have pM:∀b,madeR.vN D=b->dJ Tryz.prog (rM b).1/\∃u,(∀(b0:Base) r,(b0.rho=(fnB w D (atB 0) (mF D)).rho)->@VV b0 r (rM b).2 u)/\∀w',aZ w' v D->bM (rM b).1 [v] w' u:=λb e=>⟨⟨_,Tryz.func90,by kernel_rfl,by kernel_rfl⟩,.bool b,λ_ _ _=>rfl,λw' hw=>e▸madeR.ZP hw⟩
 have pT:twos.Sm D->(∀b∈D.bs,made.okB b=true)->dJ Tryz.prog rT.1/\∃u,(∀(b0:Base) r,(b0.rho=(fnB w D (atB 0) (mF D)).rho)->@VV b0 r rT.2 u)/\∀w',aZ w' v D->bM rT.1 [v] w' u:=λhs hok=>⟨⟨_,Tryz.func91,by kernel_rfl,by kernel_rfl⟩,twos.isV D,λb0 r e=>by
   refine⟨_,rfl,fZ (by simp[lH]) λj x u hx hu=>?_⟩
   have hj:j<16:=by have:=(aeU.1 hx).1;simpa[lH]using this
   unfold lH at hx
   rw[aeT,afH hj]at hx hu
   cases hx
   cases hu
   show Value.bool _=.bool (decide (b0.rho (nm 0 j)=1)||false)
   rw[e,show(fnB w D (atB 0) (mF D)).rho (nm 0 j)=_ from a9z h hj,made.eG,afL],λw' hw=>twoR.a5B hw hs hok⟩
 have go:∀{l:List (FuncId×V)} {rows:Know->List (FuncId×Loops)} {n:Int},run l rows n=true->(∀p∈l,dJ Tryz.prog p.1/\∃u,(∀(b0:Base) r,(b0.rho=(fnB w D (atB 0) (mF D)).rho)->@VV b0 r p.2 u)/\∀w',aZ w' v D->bM p.1 [v] w' u)->
   (∀K (ok:aC K (fnB w D (atB 0) (mF D)).rho (fnB w D (atB 0) (mF D)).sig),∀p∈rows K,∃F:Func,Tryz.prog.funcs[p.1]? =some F/\∀c,F.body=some c->Loops.ok (@aO ((fnB w D (atB 0) (mF D)).aF K ok) Tryz.prog p.2) c)->bM f [v] w (.int .i64 n):=λ{l rows n} hr hl hrows=>by
  have hr:aG (lu (dG (lib l) cu λK=>dV (rows K)) f dW [] [] (λ_=>V.s (.int .i64 n)) [.g bK]) .leaf LT=true:=hr
  refine jM h hr (fV (λK ok=>@kD ((fnB w D (atB 0) (mF D)).aF K ok) _ _ λo ho=>?_) (aS h _ _) (rows_ok hrows)) (sZ h) (aK D _ _) (λp hp=>by cases hp) (λr x hx=>hx)
  obtain⟨p,hp,rfl⟩:=afo.1 ho
  obtain⟨h1,u,h2,h3⟩:=hl p hp
  exact @fM ((fnB w D (atB 0) (mF D)).aF K ok) _ p.1 h1 _ _ (by rfl) [v] ⟨wF h (atB 0) (mF D) r0,trivial⟩ u (λr=>h2 _ r rfl) λw' hw=>h3 w' (h.frz hw)
 unfold a5P
 cases e0:many.jq D with
 |true=>exact go a9W (λp hp=>by obtain rfl:=aeR.1 hp;exact pL true e0) (λK ok p hp=>by cases hp)
 |false=>
  cases e1:madeR.vN D with
  |false=>exact go aaA (λp hp=>by
    simp only[aeQ,aeZ,afj]at hp
    rcases hp with rfl|rfl
    ·exact pL false e0
    ·exact pM false e1) (λK ok p hp=>by cases hp)
  |true=>
   have hok:=yc e1
   have hs:=XC h e0 hok
   have rw3:∀p∈[rL false,rM true,rT],dJ Tryz.prog p.1/\∃u,(∀(b0:Base) r,(b0.rho=(fnB w D (atB 0) (mF D)).rho)->@VV b0 r p.2 u)/\∀w',aZ w' v D->bM p.1 [v] w' u:=λp hp=>by
    simp only[aeQ,aeZ,afj]at hp
    rcases hp with rfl|rfl|rfl
    ·exact pL false e0
    ·exact pM true e1
    ·exact pT hs hok
   have rl:∀r,MV D=r->∀K (ok:aC K (fnB w D (atB 0) (mF D)).rho (fnB w D (atB 0) (mF D)).sig),∀p∈[(f,rowT (if r then .exit 0 else .ret) (if r then sN else sR) K)],∃F:Func,Tryz.prog.funcs[p.1]? =some F/\∀c,F.body=some c->Loops.ok (@aO ((fnB w D (atB 0) (mF D)).aF K ok) Tryz.prog p.2) c:=λr e K ok p hp=>by
    obtain rfl:=aeR.1 hp
    exact⟨F,Tryz.func41,λc hc=>iH a0t (last h hs hok e K ok) hc⟩
   cases e2:MV D with
   |false=>exact go a5b rw3 (rl false e2)
   |true=>exact go aaw rw3 (rl true e2)
