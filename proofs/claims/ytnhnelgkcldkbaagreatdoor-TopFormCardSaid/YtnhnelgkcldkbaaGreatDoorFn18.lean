/- The reference's Occurs and OccursJump answer with what has been counted. The reference's OccursJump. The reference's block and Made, as the machine runs them. -/
import Derived.Test.YtnhnelgkcldkbaaGreatDoorFn15
set_option linter.all false
set_option maxRecDepth 100000
noncomputable section
namespace Go.Proofs.YtnhnelgkcldkbaaGreatDoor
namespace Am
open Go.RowKit
def pX (F:Nat->Int):Value:=.agg ((List.range 16).map λj=>Value.int .i64 (F j)).toArray
theorem LZ {b:Base}{cs:List S}{F:Nat->Int}(h:∀j,j<16->∃c,cs[j]? =some c/\c.i64 b.rho=some (F j)){us:List Value}{r:Ren}(hus:au (@VS b r) cs us)(hl:cs.length=16):Value.agg us.toArray=pX F:=by
 unfold pX
 congr 2
 refine agT λj=>?_
 have hlu:=hus.len
 by_cases hj:j<16
 ·obtain⟨c,hc,e⟩:=h j hj
  obtain⟨u,hu,hv⟩:=au.nth hus (n:=j) (x:=c) (by rw[aI];exact hc)
  rw[hu,aeT,afH hj]
  exact congrArg some ((@i64_is b r c _ e u).1 hv)
 ·rw[afT (by omega),afT (by simp;omega)]
theorem vO {b:Base}{n:Nat}{F:Nat->Int}(h:∀j,j<16->b.rho (nm n j)=F j)(r:Ren):@VA b r (.g (bV n)) (pX F):=by
 refine⟨_,rfl,fZ (by simp[bV]) λj x u hx hu=>?_⟩
 obtain⟨hj,rfl⟩:=qY hx
 rw[aeT,afH hj]at hu
 cases hu
 show Value.int .i64 _=.int .i64 (b.rho (nm n j))
 rw[h j hj]
theorem wB {b:Base}{n:Nat}{F:Nat->Int}(h:∀j,j<16->b.rho (nm n j)=F j){r:Ren}{u:Value}(hu:@VA b r (.g (bV n)) u):u=pX F:=by
 obtain⟨us,rfl,hus⟩:=hu
 refine LZ (λj hj=>⟨.xi .i64 (nm n j),?_,?_⟩) hus (by simp[bV])
 ·unfold bV;rw[aeT,afH hj];rfl
 ·show some (b.rho (nm n j))=_;rw[h j hj]
theorem Gv {b:Base}{F:Nat->Int}(h:∀j,j<16->F j=0){r:Ren}{u:Value}(hu:@VA b r (.g jL) u):u=pX F:=by
 obtain⟨us,rfl,hus⟩:=hu
 refine LZ (λj hj=>⟨.int .i64 0,?_,?_⟩) hus (by simp[jL])
 ·unfold jL;rw[agv,afm hj]
 ·show some (0:Int)=_;rw[h j hj]
theorem a5E {D:FnD}(q:At)(more:List Int){e:E}(h:e.bd 9=true):(e.ren (8+·)).num (aA (aH D q more))=e.num (ah (D.blk q.i).pre):=by
 refine E.jD h λj hj=>?_
 have e:aH D q more=(zl D++[(q.i:Int),(q.i:Int)+1,nG q.i D.bs.length,(D.blk q.i).st.length])++(rQ 9 (D.blk q.i).pre++((((D.blk q.i).ops.length:Int)::rQ 3 (D.blk q.i).post)++(xsS D q++(xsO D q++(xsT D q++(xsC D q++more)))))):=by simp[aH,xsB,VN]
 rw[e]
 exact(kR (n:=8) rfl).trans (yA hj _)
theorem ae4:aG (noT jmG) jmT (((Lf.of (ivU 16)).pin 0 2).pin 14 0)=true:=by kernel_rfl
theorem adE:(aG (noT jmG) jmT ((Lf.of (ivU 16)).hi 0 0)&&aG (noT jmG) jmT ((Lf.of (ivU 16)).lo 0 6))=true:=by kernel_rfl
theorem aeg:(aG (noT jmG) jmT (((Lf.of (ivU 16)).lo 9 1).hi 0 3)&&aG (noT jmG) jmT (((Lf.of (ivU 16)).lo 9 1).lo 0 5))=true:=by kernel_rfl
theorem OE {w:World}{v:Value}{pre:List Value}{sv:Value}{post:List Value}{els:List (List Value)}(hj:jd w v pre sv post els)(h:okJ pre els post=true):
  (ah pre 0=2->(aY 1).num (ah pre)=true)/\(1<=ah pre 0/\ah pre 0<=5)/\(ah pre 0≠4->els=[]):=by
 have hl:=jS hj
 have lp:=ji hj
 let us:List Value:=aW pre els post++(kV pre els post).map (Value.int .i64)
 have hk:au Kd.ok (kJ++[.i .i64,.i .i64,.i .i64]) us:=(sW hj).app ⟨⟨_,rfl,by have:=eU (els.all λel=>(aY 0).val el);show(-9223372036854775808:Int)<=_;omega,by have:=eU (els.all λel=>(aY 0).val el);show _<=(9223372036854775807:Int);omega⟩,⟨_,rfl,by have:=eU ((aY 1).val (aW pre els post));show(-9223372036854775808:Int)<=_;omega,by have:=eU ((aY 1).val (aW pre els post));show _<=(9223372036854775807:Int);omega⟩,⟨_,rfl,by have:=eU ((dX 10).val (aW pre els post));show(-9223372036854775808:Int)<=_;omega,by have:=eU ((dX 10).val (aW pre els post));show _<=(9223372036854775807:Int);omega⟩,trivial⟩
 have h0:(Lf.of (ivU 16)).Holds (ah us) (λ_=>[]):=zN hk rfl
 have ea:∀i,i<13->ah us i=ah (aW pre els post) i:=λi hi=>jy (by omega)
 have ep:∀i,i<9->ah us i=ah pre i:=λi hi=>(ea i (by omega)).trans (by unfold aW;exact jy (by omega))
 have eb:∀j m,(kV pre els post)[j]? =some m->ah us (13+j)=m:=λj m hm=>by
  show ah (aW pre els post++_) _=_
  rw[lg hl]
  unfold ah
  rw[aeT,hm]
  rfl
 have e14:ah us 14=b2i ((aY 1).val (aW pre els post)):=eb 1 _ rfl
 have e15:ah us 15=b2i ((dX 10).val (aW pre els post)):=eb 2 _ rfl
 have idr:∀e:E,e.ren (λi=>i)=e:=λe=>by
  induction e with
  |lt i c=>rfl
  |zero l=>simp[E.ren]
  |and a b ha hb=>rw[E.ren,ha,hb]
  |or a b ha hb=>rw[E.ren,ha,hb]
  |not a ha=>rw[E.ren,ha]
 have sm:∀e:E,e.bd 13=true->e.num (ah us)=e.val (aW pre els post):=λe he=>by
  rw[E.iD]
  have:=E.jD (f:=λi=>i) he ea
  rwa[idr]at this
 have sp:∀e:E,e.bd 9=true->e.num (ah us)=e.num (ah pre):=λe he=>by
  have:=E.jD (f:=λi=>i) he ep
  rwa[idr]at this
 have one:∀i c,(isE i c).num (ah us)=decide (ah us i=c):=λi c=>by show(decide _&&true)=_;rw[afg]
 have hg:∀p∈jmG,p.1.num (ah us)=p.2:=λp hp=>by
  simp only[jmG,aeQ,aeZ,afj]at hp
  rcases hp with rfl|rfl|rfl
  ·unfold okJ at h
   rw[E.iD]at h
   exact h
  ·refine pG ?_
   rw[one,e14,made.eG,sm _ rfl]
  ·refine pG ?_
   rw[one,e15,made.eG,sm _ rfl]
 have c9:ah us 9=els.length:=(ea 9 (by decide)).trans (uG hj)
 have c0:=ep 0 (by decide)
 have r4:=adE
 have r5:=aeg
 rw[aeI]at r4 r5
 refine⟨λh2=>?_,⟨?_,?_⟩,λh4=>?_⟩
 ·rw[<-sp _ rfl,sm _ rfl]
  cases hb:(aY 1).val (aW pre els post)with
  |true=>rfl
  |false=>
   rw[hb]at e14
   exact(cannot ae4 ((h0.pin (i:=0) (c:=2) (c0.trans h2)).pin (i:=14) (c:=0) e14) hg).elim
 ·apply afy;intro hc;exact cannot r4.1 (h0.hi (i:=0) (c:=0) (by omega)) hg
 ·apply afy;intro hc;exact cannot r4.2 (h0.lo (i:=0) (c:=6) (by omega)) hg
 ·apply afy
  intro hc
  have hlen:1<=els.length:=by
   cases els with
   |nil=>exact absurd rfl hc
   |cons x r=>simp
  have h9:=h0.lo (i:=9) (c:=1) (by rw[c9];omega)
  by_cases h3:ah pre 0<=3
  ·exact cannot r5.1 (h9.hi (i:=0) (c:=3) (by omega)) hg
  ·exact cannot r5.2 (h9.lo (i:=0) (c:=5) (by omega)) hg
end Am
namespace occurs
open Go.RowKit Am
theorem fx {D:FnD}{q:At}:vJ (Rf Z T) (aA (aH D q (more (D.stm q.i q.k)))):=by
 have l49:aA (aH D q (more (D.stm q.i q.k))) 49=ah (D.stm q.i q.k) 25:=rfl
 have l46:aA (aH D q (more (D.stm q.i q.k))) 46=ah (D.stm q.i q.k) 22:=rfl
 have l25:aA (aH D q (more (D.stm q.i q.k))) 25=ah (D.stm q.i q.k) 1:=rfl
 have l41:aA (aH D q (more (D.stm q.i q.k))) 41=ah (D.stm q.i q.k) 17:=rfl
 have l33:aA (aH D q (more (D.stm q.i q.k))) 33=ah (D.stm q.i q.k) 9:=rfl
 have l38:aA (aH D q (more (D.stm q.i q.k))) 38=ah (D.stm q.i q.k) 14:=rfl
 have b0:∀j,0<=o0 j/\o0 j<=0:=λj=>⟨agd _,agd _⟩
 have b1:=AB (l:=ah (D.stm q.i q.k) 1) b0
 have b2:=AB (l:=ah (D.stm q.i q.k) 9) b1
 refine Q7 (aK D q _) (λt ht=>?_) (λt ht=>?_)
 ·unfold more at l49 l46 l25 |-
  simp only[Z,aeQ,aeZ,afj]at ht
  rcases ht with rfl|rfl|rfl
  ·exact G9 (N:=7) (n:=0) rfl (by rw[l49];rfl) rfl rfl rfl
  ·exact G9 (N:=7) (n:=2) rfl (by rw[l46];rfl) rfl rfl rfl
  ·exact G9 (N:=7) (n:=4) rfl (by rw[l25];rfl) rfl rfl rfl
 ·unfold more at l41 l33 l38 |-
  simp only[T,aeQ,aeZ,afj]at ht
  rcases ht with rfl|rfl|rfl|rfl
  ·exact kC (N:=7) (n:=6) rfl rfl (by rw[l41];rfl) rfl (by rw[l41];rfl) (by rw[l41];rfl) b1 (by decide)
  ·exact kC (N:=7) (n:=8) rfl rfl (by rw[l33];rfl) rfl (by rw[l33];rfl) (by rw[l33];rfl) b1 (by decide)
  ·exact kC (N:=7) (n:=10) rfl rfl (by rw[l38];rfl) rfl (by rw[l38];rfl) (by rw[l38];rfl) b2 (by decide)
  ·exact kC (N:=7) (n:=12) rfl rfl (by rw[l38];rfl) rfl (by rw[l38];rfl) (by rw[l38];rfl) b1 (by decide)
theorem DJ (st:List Value)(s:Nat)(h0:1<=s)(hs:s<=7):∃G,(rows st)[s-1]? =some G/\∀j,G j=cnt ((twos.gK s).map (ah st)) j:=by
 have h8:s=1\/s=2\/s=3\/s=4\/s=5\/s=6\/s=7:=by omega
 rcases h8 with rfl|rfl|rfl|rfl|rfl|rfl|rfl
 ·exact⟨_,rfl,λj=>by simp[twos.gK,cnt,acc,bump,o0]⟩
 ·exact⟨_,rfl,λj=>by simp[twos.gK,cnt,acc,bump,o0]⟩
 ·exact⟨_,rfl,λj=>by simp[twos.gK,cnt,acc,bump,o0]⟩
 ·exact⟨_,rfl,λj=>by simp[twos.gK,cnt,acc,bump,o0]⟩
 ·exact⟨_,rfl,λj=>by simp[twos.gK,cnt,acc,bump,o0]⟩
 ·exact⟨_,rfl,λj=>by simp[twos.gK,cnt,acc,bump,o0];omega⟩
 ·exact⟨_,rfl,λj=>by simp[twos.gK,cnt,acc,bump,o0]⟩
section
variable {w:World} {v:Value} {D:FnD} (h:aZ w v D)
include h
theorem Uw (q:At)(m:List Int)(hi:q.i<D.bs.length)(hk:q.k<(D.blk q.i).st.length):au (@VA (fnB w D q m) r0) [.g lV] [.agg (D.stm q.i q.k).toArray]:=by
 have hc:=EC h hi hk m
 refine⟨⟨_,rfl,fZ hc.len λi x u hx hu=>?_⟩,trivial⟩
 obtain⟨u',hu',e⟩:=au.nth hc (n:=i) (x:=x) (by rw[aI];exact hx)
 rw[hu]at hu'
 cases hu'
 exact e r0
theorem X3 {i k:Nat}(hB:D.bs.length<=1000)(hS:(D.blk i).st.length<=1000)(hi:i<D.bs.length)(hk:k<(D.blk i).st.length)(hok:dK.val (D.stm i k)=true):bM f [.agg (D.stm i k).toArray] w (pX (twos.tJ (D.stm i k))):=by
 let q:At:=made.atS i k
 have rg:=λc hc=>Cm (Ah h hi hk).1 hok (c:=c) hc
 have hb:(Lf.of (eH++[])).Holds (aA (aH D q (more (D.stm i k)))) (λ_=>[]):=twos.dU h q (iL ⟨by show i<=1000;omega,by show k<=1000;omega,afb _,afb _⟩) _
 have nr:∀{L:Lf} {n c:Nat},c∈[25,1,9,14,17,22]->aA (aH D q (more (D.stm i k))) n=ah (D.stm i k) c->L.Holds (aA (aH D q (more (D.stm i k)))) (λ_=>[])->(twos.mG L n).Holds (aA (aH D q (more (D.stm i k)))) (λ_=>[]):=λ{L n c} hc e hL=>by
  obtain⟨q1,q2⟩:=rg c hc
  exact(hL.lo (i:=n) (c:=0) (by rw[e];exact q1)).hi (i:=n) (c:=15) (by rw[e];exact q2)
 have hL:L1.Holds (aA (aH D q (more (D.stm i k)))) (λ_=>[]):=nr (n:=46) (c:=22) (by decide) rfl (nr (n:=41) (c:=17) (by decide) rfl (nr (n:=38) (c:=14) (by decide) rfl (nr (n:=33) (c:=9) (by decide) rfl (nr (n:=25) (c:=1) (by decide) rfl (nr (n:=49) (c:=25) (by decide) rfl hb)))))
 have:=jI (b:=fnB w D q (more (D.stm i k))) (w:=w) (aeM _) (λ_ _=>rfl) (bC (@bQ.nought (fnB w D q (more (D.stm i k))))) hL (fx (q:=q)) (λp hp=>by
  obtain rfl:=aeR.1 hp
  exact(FW q _).trans hok) (Uw h q _ hi hk) nU
 refine this.mono λx w' ⟨u,r,e1,e2,e3⟩=>⟨?_,e3⟩
 rw[e1]
 congr 1
 have eS:twos.jK ((twos.yh.map twos.xq).map (E.num (fnB w D q (more (D.stm i k))).rho))=twos.kU (D.stm i k):=by
  refine congrArg twos.jK ?_
  rw[agp]
  refine agZ λe he=>yY q _ ?_
  simp only[twos.yh,aeQ,aeZ,afj]at he
  rcases he with rfl|rfl|rfl|rfl|rfl|rfl<;>rfl
 unfold out at e2
 rw[eS]at e2
 have e2:@VA (fnB w D q (more (D.stm i k))) r (.g (bif Nat.beq (twos.kU (D.stm i k)) 0 then jL else bV (twos.kU (D.stm i k)-1))) u:=e2
 cases hs:Nat.beq (twos.kU (D.stm i k)) 0 with
 |true=>
  rw[hs,aeW]at e2
  refine Gv (λj hj=>?_) e2
  unfold twos.tJ
  rw[aeX hs]
  rfl
 |false=>
  rw[hs,aeS]at e2
  have h1:1<=twos.kU (D.stm i k):=by
   rcases agN (twos.kU (D.stm i k))with e|e
   ·rw[e]at hs;cases hs
   ·exact e
  obtain⟨G,g1,g2⟩:=DJ (D.stm i k) _ h1 (twos.RP _)
  exact wB (λj hj=>(gG g1 hj).trans (g2 j)) e2
end
end occurs
namespace occJump
open Go.RowKit Am
def f:FuncId:=149
def F:Func:=Tryz.f149
def iR:Code:=dZ F 0
def keep:List (Nat×S):=[(1,.ptr 0 0),(2,.ptr 1 0),(3,.ptr 2 0)]
def hp (n:Nat):Hp:=[(2,⟨bV n,true⟩),(1,⟨jL,true⟩),(0,⟨nT,true⟩)]
def hdA:St:=⟨iP F.ntmps (keep++[(4,.rv 4),(5,.xi .i64 50)]),⟨hp 0,3⟩⟩
def sNA:St:=⟨iP F.ntmps keep,⟨hp 0,3⟩⟩
def T:List Cnt:=[⟨0,1,55,109⟩]
def Bv:E:=.not (isE 53 1)
def okN:E:=(aY 0).ren (53+·)
def us:List Upd:=isU (.xi .i64 50) (.xi .i64 51)::oM 0 [Bv] (λbs=>bif bs.headD false then 1 else 0)
def LA:Lf:=twos.mG (((Lf.of (eH++[])).pin 6 1).pin 52 1) 55
def LA0:Lf:=((Lf.of (eH++[])).pin 6 1).pin 52 0
theorem CJ:aG (dQ (dG gU (cu.app (iJ.app a2s)) bg) f (NQ T) [(okN,true)] us ⟨21,0,5⟩ iR hdA .normal hdA) (occurs.op4 53 .leaf) LA=true:=by kernel_rfl
theorem JK:aG (dQ (dG gU (cu.app iJ) bg) f dW [] (jk 0 0) ⟨21,0,5⟩ iR hdA (.exit 0) sNA) .leaf LA0=true:=by kernel_rfl
def Zj:List UR:=[⟨2,11,125⟩]
def Tj:List Cnt:=[⟨0,1,18,127⟩]
def rowA (K:Know):Loops:=jh 5 ⟨21,0,5⟩ (@thU K (isU (.xi .i64 50) (.int .i64 0)::qF 0)) hdA (.exit 0) sNA
def isB:E:=isE 8 2
def brN:E:=.and (isE 8 2) (.not (isE 9 1))
def caN:E:=isE 8 4
def okA:E:=imp (isE 8 2) ((aY 1).ren (8+·))
def out (bs:List Bool):V:=.a (.g (bif bs.headD false then bV 2 else bif (bs.drop 1).headD false then jL else bif (bs.drop 2).headD false then bV 1 else bV 0))
def tree:HT:=.on 8 2 .leaf (.on 8 3 (occurs.op4 9 .leaf) (.on 8 4 .leaf (.on 8 5 .leaf .leaf)))
def LJ:Lf:=twos.mG (twos.mG ((Lf.of (eH++[])).pin 6 1) 11) 18
theorem nU:aG (lu (dG gU (cu.app iJ) λK=>dV [(f,rowA K)]) f (Rf Zj Tj) [(okA,true)] [brN,isB,caN] out [.g nT]) tree LJ=true:=by kernel_rfl
theorem OU:fU (F.body.getD .skip) 0 5=true:=by kernel_rfl
def P9 (b:bU)(m:Nat)(j:Nat):Int:=acc (λop=>twos.xZ op j) (b.ops.take m)
def Hf (b:bU)(j:Nat):Int:=acc (λop=>twos.xZ op j) b.ops
def pK (b:bU)(j:Nat):Int:=if ah b.pre 0=2 then(if ah b.pre 1=1 then 0 else bump occurs.o0 (ah b.pre 3) j)else if ah b.pre 0=4 then bump (Hf b) (ah b.post 0) j else Hf b j
def mA (D:FnD)(i m:Nat):List Int:=cZ [P9 (D.blk i) m,bump (P9 (D.blk i) m) (ah (D.opd i m) 2)]++twos.vY (P9 (D.blk i) m) (ah (D.opd i m) 2)
def a0Q (b:bU):List (Nat->Int):=[Hf b,bump (Hf b) (ah b.post 0),bump occurs.o0 (ah b.pre 3)]
def mJ (b:bU):List Int:=cZ (a0Q b)++([0,1]++twos.vY (Hf b) (ah b.post 0))
theorem a3C (l:List (List Value))(j:Nat):0<=acc (λop=>twos.xZ op j) l/\acc (λop=>twos.xZ op j) l<=l.length:=by
 have:=qp (λop=>twos.xZ op j) 1 l λx _=>eU _
 omega
section
variable {w:World} {v:Value} {D:FnD} (h:aZ w v D)
include h
theorem TQ {i:Nat}(q:At)(hq:q.i=i)(m:List Int)(hi:i<D.bs.length):au (@VA (fnB w D q m) r0) [.g nT] [.agg ((D.blk i).pre++(D.blk i).a::(D.blk i).post).toArray]:=by
 have hc:=Dw h hi q hq m
 refine⟨⟨_,rfl,fZ hc.len λn x u hx hu=>?_⟩,trivial⟩
 obtain⟨u',hu',e⟩:=au.nth hc (n:=n) (x:=x) (by rw[aI];exact hx)
 rw[hu]at hu'
 cases hu'
 exact e r0
theorem args {i:Nat}(hi:i<D.bs.length)(hB:D.bs.length<=1000)(hA:(D.blk i).ops.length<=1000)(hok:((D.blk i).ops.all λel=>(aY 0).val el)=true):∀K (ok:aC K (fnB w D (atB i) (mJ (D.blk i))).rho (fnB w D (atB i) (mJ (D.blk i))).sig),@aO ((fnB w D (atB i) (mJ (D.blk i))).aF K ok) Tryz.prog (rowA K) iR:=by
 intro K ok
 have fit:∀k,k<=(D.blk i).ops.length->Fits D (made.atM i k):=λk hk=>iL ⟨by show i<=1000;omega,afb _,by show k<=1000;omega,afb _⟩
 have okk:=(iW (D.blk i).ops [] λel=>(aY 0).val el).2 hok
 have r0:∀k b G,[P9 (D.blk i) k,bump (P9 (D.blk i) k) (ah (D.opd i k) 2)][b]? =some G->∀j,j<16->(fnB w D (made.atM i k) (mA D i k)).rho (nm b j)=G j:=λk b G e j hj=>gG e hj
 have ub:∀u∈isU (.xi .i64 50) (.int .i64 0)::qF 0,iQ (fnB w D (atB i) (mJ (D.blk i))) (fnB w D (made.atM i 0) (mA D i 0)) u:=λu hu=>by
  rcases aeQ.1 hu with rfl|hu
  ·exact dM λr v hv=>hv
  exact wH (λj hj=>r0 0 0 _ rfl j hj) u hu
 refine @dn _ _ (λk=>fnB w D (made.atM i k) (mA D i k)) iR _ _ hdA _ _ (λe=>by cases e) (D.blk i).ops.length (bY (atB i) (made.atM i 0) rfl _ _) ub (λk hk=>?_) ?_ 5 K ok
 ·have rg:=J7 (Jc h hi hk).1 (okk k hk)
  have hfx:vJ (NQ T) (aA (aH D (made.atM i k) (mA D i k))):=by
   refine BF (aK D _ _) λt ht=>?_
   obtain rfl:=aeR.1 ht
   have l55:aA (aH D (made.atM i k) (mA D i k)) 55=ah (D.opd i k) 2:=rfl
   unfold mA at l55 |-
   refine kC (N:=2) (n:=0) (M:=1000) rfl rfl (by rw[l55];rfl) rfl (by rw[l55];rfl) (by rw[l55];rfl) (λj=>?_) (by decide)
   have:=a3C ((D.blk i).ops.take k) j
   have hl:((D.blk i).ops.take k).length<=1000:=by rw[afu];omega
   show 0<=acc _ _/\acc _ _<=(1000:Int)
   omega
  refine bI CJ (bC (@aX (fnB w D (made.atM i k) (mA D i k)) _ _ (aS h _ _) (@aX (fnB w D (made.atM i k) (mA D i k)) _ _ (dN h (q:=made.atM i k) hi _) (Gj h (q:=made.atM i k) hi hk _)))) (bY (made.atM i k) (made.atM i (k+1)) rfl _ _) (L:=LA) ?_ hfx (λp hp=>?_) (λu hu=>?_) rfl (bF f iR)
  ·have hb:=((twos.dU h (made.atM i k) (fit k (by omega)) (mA D i k)).pin (i:=6) (c:=1) (show b2i (decide ((i:Int)<D.bs.length))=1 from(dh _).2 (by omega))).pin (i:=52) (c:=1) (show b2i (decide ((k:Int)<(D.blk i).ops.length))=1 from(dh _).2 (by omega))
   exact(hb.lo (i:=55) (c:=0) (show 0<=ah (D.opd i k) 2 from rg.1)).hi (i:=55) (c:=15) (show ah (D.opd i k) 2<=15 from rg.2)
  ·obtain rfl:=aeR.1 hp
   exact(XL (made.atM i k) _ (e:=aY 0) rfl).trans ((E.iD _ _).symm.trans (okk k hk))
  ·have e53:(fnB w D (made.atM i k) (mA D i k)).rho 53=ah (D.opd i k) 0:=rfl
   have sa:∀j,P9 (D.blk i) (k+1) j=P9 (D.blk i) k j+twos.xZ (D.opd i k) j:=λj=>by show acc _ _=acc _ _+_;rw[nH _ _ [] hk];rfl
   rcases aeQ.1 hu with rfl|hu
   ·exact dM λr v hv=>hv
   refine dL (λj hj=>?_) u hu
   have eN:Bv.num (fnB w D (made.atM i k) (mA D i k)).rho=!decide (ah (D.opd i k) 0=1):=by
    show(!(decide (_=(1:Int))&&true))=_
    rw[e53,afg]
   simp only[afr,agj,agq]
   rw[eN,r0 (k+1) 0 _ rfl j hj,sa j]
   unfold twos.xZ
   cases hp:(!decide (ah (D.opd i k) 0=1))with
   |false=>rw[aeS,r0 k 0 _ rfl j hj,agw];show _=_+(0:Int);omega
   |true=>rw[aeW,r0 k 1 _ rfl j hj,afY];rfl
 ·refine bI JK (bC (@aX (fnB w D (made.atM i _) (mA D i _)) _ _ (aS h _ _) (dN h (q:=made.atM i _) hi _))) (bY (made.atM i (D.blk i).ops.length) (atB i) rfl _ _) (L:=LA0) ?_ (aK D _ _) (λp hp=>by cases hp) (λu hu=>?_) rfl (bF f iR)
  ·exact((twos.dU h _ (fit _ (aeM _)) _).pin (i:=6) (c:=1) (show b2i (decide ((i:Int)<D.bs.length))=1 from(dh _).2 (by omega))).pin (i:=52) (c:=0) (show b2i (decide (((D.blk i).ops.length:Int)<(D.blk i).ops.length))=0 by rw[af2 (by omega)];rfl)
  ·have rr:=r0 (D.blk i).ops.length
   refine dL (λj hj=>?_) u hu
   refine(rr 0 _ rfl j hj).trans ((show P9 (D.blk i) (D.blk i).ops.length j=Hf (D.blk i) j by unfold P9 Hf;rw[afq]).trans ?_)
   exact(gG (D:=D) (q:=atB i) (fs:=a0Q (D.blk i)) (b:=0) rfl hj).symm
theorem Q5 {i:Nat}(hi:i<D.bs.length)(hB:D.bs.length<=1000)(hok:xJ (D.blk i)=true):bM f [.agg ((D.blk i).pre++(D.blk i).a::(D.blk i).post).toArray] w (pX (pK (D.blk i))):=by
 have hj:=sU h hi
 obtain⟨⟨j1,j2⟩,⟨j3,j4⟩,jo⟩:=Bz hj hok
 obtain⟨m1,m2,m3⟩:=OE hj hok
 have hl8:(D.blk i).ops.length<=8:=AV (ji hj) hok
 have ops:((D.blk i).ops.all λel=>(aY 0).val el)=true:=by
  rcases jo with e|e
  ·exact e
  ·rw[afA e];rfl
 have hb:=(twos.dU h (atB i) (fD (by omega)) (mJ (D.blk i))).pin (i:=6) (c:=1) (show b2i (decide ((i:Int)<D.bs.length))=1 from(dh _).2 (by omega))
 have hL:LJ.Holds (aA (aH D (atB i) (mJ (D.blk i)))) (λ_=>[]):=(((hb.lo (i:=11) (c:=0) j1).hi (i:=11) (c:=15) j2).lo (i:=18) (c:=0) j3).hi (i:=18) (c:=15) j4
 have l11:aA (aH D (atB i) (mJ (D.blk i))) 11=ah (D.blk i).pre 3:=rfl
 have l18:aA (aH D (atB i) (mJ (D.blk i))) 18=ah (D.blk i).post 0:=rfl
 have hfx:vJ (Rf Zj Tj) (aA (aH D (atB i) (mJ (D.blk i)))):=by
  unfold mJ at l11 l18 |-
  refine Q7 (aK D _ _) (λt ht=>?_) (λt ht=>?_)
  ·obtain rfl:=aeR.1 ht
   exact G9 (N:=3) (n:=0) rfl (by rw[l11];rfl) rfl rfl rfl
  ·obtain rfl:=aeR.1 ht
   refine kC (N:=3) (n:=2) (M:=1000) rfl rfl (by rw[l18];rfl) rfl (by rw[l18];rfl) (by rw[l18];rfl) (λj=>?_) (by decide)
   have:=a3C (D.blk i).ops j
   show 0<=acc _ _/\acc _ _<=(1000:Int)
   omega
 have hR:jJ Tryz.prog (dG gU (cu.app iJ) λK=>dV [(f,rowA K)]) (fnB w D (atB i) (mJ (D.blk i))):=
  fV jA (@aX (fnB w D (atB i) (mJ (D.blk i))) _ _ (aS h _ _) (dN h (q:=atB i) hi _)) (rows_ok (T:=λK=>[(f,rowA K)]) λK ok p hp=>by
   obtain rfl:=aeR.1 hp
   exact⟨F,Tryz.func149,λc hc=>iH OU (args h hi hB (by omega) ops K ok) hc⟩)
 have e8:(fnB w D (atB i) (mJ (D.blk i))).rho 8=ah (D.blk i).pre 0:=rfl
 have e9:(fnB w D (atB i) (mJ (D.blk i))).rho 9=ah (D.blk i).pre 1:=rfl
 have isN:∀n c,(isE n c).num (fnB w D (atB i) (mJ (D.blk i))).rho=decide ((fnB w D (atB i) (mJ (D.blk i))).rho n=c):=λn c=>by show(decide _&&true)=_;rw[afg]
 have:=jI (b:=fnB w D (atB i) (mJ (D.blk i))) (w:=w) (aeM _) (λ_ _=>rfl) hR hL hfx (λp hp=>by
  obtain rfl:=aeR.1 hp
  show(!(isE 8 2).num _||((aY 1).ren (8+·)).num _)=true
  rw[isN,e8,show((aY 1).ren (8+·)).num (fnB w D (atB i) (mJ (D.blk i))).rho=_ from a5E (atB i) _ (e:=aY 1) rfl]
  by_cases h2:ah (D.blk i).pre 0=2
  ·rw[show(D.blk (atB i).i)=D.blk i from rfl,m1 h2,Bool.or_true]
  ·rw[af2 h2];rfl) (TQ h (atB i) rfl _ hi) nU
 refine this.mono λx w' ⟨u,r,e1,e2,e3⟩=>⟨?_,e3⟩
 rw[e1]
 congr 1
 have eb:brN.num (fnB w D (atB i) (mJ (D.blk i))).rho=(decide (ah (D.blk i).pre 0=2)&&!decide (ah (D.blk i).pre 1=1)):=by
  show((isE 8 2).num _&&!(isE 9 1).num _)=_
  rw[isN,isN,e8,e9]
 have ei:isB.num (fnB w D (atB i) (mJ (D.blk i))).rho=decide (ah (D.blk i).pre 0=2):=by unfold isB;rw[isN,e8]
 have ec:caN.num (fnB w D (atB i) (mJ (D.blk i))).rho=decide (ah (D.blk i).pre 0=4):=by unfold caN;rw[isN,e8]
 have rj:∀b G,(a0Q (D.blk i))[b]? =some G->∀j,j<16->(fnB w D (atB i) (mJ (D.blk i))).rho (nm b j)=G j:=λb G e j hj=>gG e hj
 unfold out at e2
 simp only[afr,agj,agq,ahj,ahl]at e2
 rw[eb,ei,ec]at e2
 by_cases h2:ah (D.blk i).pre 0=2
 ·by_cases h1:ah (D.blk i).pre 1=1
  ·rw[afn h2,afn h1]at e2
   exact Gv (λj hj=>by unfold pK;rw[afm h2,afm h1]) (show @VA (fnB w D (atB i) (mJ (D.blk i))) r (.g jL) u from e2)
  ·rw[afn h2,af2 h1]at e2
   exact wB (λj hj=>(rj 2 _ rfl j hj).trans (by unfold pK;rw[afm h2,afc h1])) (show @VA (fnB w D (atB i) (mJ (D.blk i))) r (.g (bV 2)) u from e2)
 ·by_cases h4:ah (D.blk i).pre 0=4
  ·rw[af2 h2,afn h4]at e2
   exact wB (λj hj=>(rj 1 _ rfl j hj).trans (by unfold pK;rw[afc h2,afm h4])) (show @VA (fnB w D (atB i) (mJ (D.blk i))) r (.g (bV 1)) u from e2)
  ·rw[af2 h2,af2 h4]at e2
   exact wB (λj hj=>(rj 0 _ rfl j hj).trans (by unfold pK;rw[afc h2,afc h4])) (show @VA (fnB w D (atB i) (mJ (D.blk i))) r (.g (bV 0)) u from e2)
end
end occJump
namespace block
open Go.RowKit Am
def f:FuncId:=144
def F:Func:=Tryz.f144
def ng:Code:=dZ F 0
def keep:List (Nat×S):=[(2,.ptr 0 0),(3,.ptr 1 0)]
def hp:Hp:=[(1,⟨lU,true⟩),(0,⟨bK,true⟩)]
def hd:St:=⟨iP F.ntmps (keep++[(5,.xi .i64 21)]),⟨hp,2⟩⟩
def sN:St:=⟨iP F.ntmps keep,⟨hp,2⟩⟩
def sR:St:=⟨iP F.ntmps [(4,.bool false)],⟨[],2⟩⟩
def rV (b:Bool):aU:=nJ 61 [.g lV] (mB b)
def rO:aU:=nJ occurs.f [.g lV] (.a (.g (bV 0)))
def rF (b:Bool):aU:=nJ far.f [.g (bV 0),.s (.xi .i64 2)] (mB b)
def Ee (l:List aU):Know->aU:=λ_=>FB l
def L1:Lf:=((Lf.of (eH++[])).pin 6 1).pin 23 1
def L3:Lf:=((Lf.of (eH++[])).pin 6 1).pin 23 0
def turn (l:List aU)(tb:Tabs)(us:List Upd)(x:X)(s1:St):Lf->Bool:=dQ (dG (Ee l) tb bg) f dW [] us ⟨21,0,5⟩ ng hd x s1
def tbI:Tabs:=cu.app (iJ.app Ym)
theorem step:aG (turn [rV true,rO,rF false] tbI [isU (.xi .i64 21) (.xi .i64 22)] .normal hd) .leaf L1=true:=by kernel_rfl
theorem a4g:aG (turn [rV false] tbI [] .ret sR) .leaf L1=true:=by kernel_rfl
theorem sF:aG (turn [rV true,rO,rF true] tbI [] .ret sR) .leaf L1=true:=by kernel_rfl
theorem stop:aG (turn [] (cu.app iJ) [] (.exit 0) sN) .leaf L3=true:=by kernel_rfl
def rVJ (b:Bool):aU:=nJ 85 [.g nT] (mB b)
def rOJ:aU:=nJ occJump.f [.g nT] (.a (.g (bV 0)))
def row (x:X)(s1:St)(K:Know):Loops:=jh 3 ⟨21,0,5⟩ (@thU K [isU (.xi .i64 21) (.int .i64 0)]) hd x s1
def tgE:E:=.or (.or (isE 8 3) (isE 8 5)) (.and (isE 72 1) (.or (.not (isE 8 2)) (.or (isE 74 1) (isE 73 1))))
def fxB:Fx:=⟨[],{ dW.xt with eq:=(16,15,74)::dW.xt.eq }⟩
def run (l:List aU)(x:X)(s1:St)(es:List E)(g:List Bool->V):Lf->Bool:=lu (dG (Ee l) (cu.app iJ) λK=>dV [(f,row x s1 K)]) f fxB [] es g [.g bK,.g lU]
def LB:Lf:=(Lf.of (eH++[])).pin 6 1
def b2 (i:Nat)(t:HT):HT:=.both i 1 t
def tgT:HT:=.on 8 2 (b2 72 .leaf) (.on 8 3 (b2 72 (b2 74 (b2 73 .leaf))) (.on 8 4 .leaf (.on 8 5 (b2 72 .leaf) (.on 8 6 .leaf (b2 72 .leaf)))))
theorem acu:aG (run [] .ret sR [] λ_=>V.s (.bool false)) .leaf LB=true:=by kernel_rfl
theorem adA:aG (run [rVJ false] (.exit 0) sN [] λ_=>V.s (.bool false)) .leaf LB=true:=by kernel_rfl
theorem abu:aG (run [rVJ true,rOJ,rF true] (.exit 0) sN [] λ_=>V.s (.bool false)) .leaf LB=true:=by kernel_rfl
theorem a2N:aG (run [rVJ true,rOJ,rF false] (.exit 0) sN [tgE] λbs=>V.s (.bool (bs.headD false))) tgT LB=true:=by kernel_rfl
theorem tag:fU (F.body.getD .skip) 0 3=true:=by kernel_rfl
end block
namespace madeR
open Go.RowKit Am
def f:FuncId:=90
def F:Func:=Tryz.f90
def iE:Code:=dZ F 0
def mX:Code:=dZ F 1
def keep:List (Nat×S):=[(1,.ptr 0 0)]
def hp:Hp:=[(0,⟨bK,true⟩)]
def hdT:St:=⟨iP F.ntmps (keep++[(3,.xi .i64 58)]),⟨hp,1⟩⟩
def hdB:St:=⟨iP F.ntmps (keep++[(4,.xi .i64 4)]),⟨hp,1⟩⟩
def sN:St:=⟨iP F.ntmps keep,⟨hp,1⟩⟩
def sR:St:=⟨iP F.ntmps [(2,.bool false)],⟨[],1⟩⟩
def L1:Lf:=(Lf.of (eH++[])).pin 60 1
def L3:Lf:=(Lf.of (eH++[])).pin 60 0
def Jo (tb:Tabs)(giv:List (E×Bool))(us:List Upd)(x:X)(s1:St):Lf->Bool:=dQ (dG gU tb bg) f dW giv us ⟨4,0,3⟩ iE hdT x s1
theorem stepT:aG (Jo (cu.app O0) [(head.okN,true)] [isU (.xi .i64 58) (.xi .i64 59)] .normal hdT) head.hTy L1=true:=by kernel_rfl
theorem a4k:aG (Jo (cu.app O0) [(head.okN,false)] [] .ret sR) head.hTy L1=true:=by kernel_rfl
theorem PS:aG (Jo cu [] [] (.exit 0) sN) .leaf L3=true:=by kernel_rfl
def rB (b:Bool):Know->aU:=λ_=>nJ block.f [.g bK,.g lU] (mB b)
def a1q (lib:Know->aU)(tb:Tabs)(us:List Upd)(x:X)(s1:St):Lf->Bool:=dQ (dG lib tb bg) f dW [] us ⟨4,0,3⟩ mX hdB x s1
def LB1:Lf:=(Lf.of (eH++[])).pin 6 1
def LB0:Lf:=(Lf.of (eH++[])).pin 6 0
theorem a1W:aG (a1q (rB true) (cu.app iJ) [isU (.xi .i64 4) (.xi .i64 5)] .normal hdB) .leaf LB1=true:=by kernel_rfl
theorem aaM:aG (a1q (rB false) (cu.app iJ) [] .ret sR) .leaf LB1=true:=by kernel_rfl
theorem ace:aG (a1q gU cu [] (.exit 2) sN) .leaf LB0=true:=by kernel_rfl
def rowT (x:X)(s1:St)(K:Know):Loops:=jh 5 ⟨4,0,3⟩ (@thU K [isU (.xi .i64 58) (.int .i64 0)]) hdT x s1
def rowB (x:X)(s1:St)(K:Know):Loops:=jh 12 ⟨4,0,3⟩ (@thU K [isU (.xi .i64 4) (.int .i64 0)]) hdB x s1
def abQ (b:Bool):Know->aU:=λ_=>nJ many.fB [.g bK] (mB b)
def run (m:Bool)(tb:Tabs)(rows:Know->List (FuncId×Loops))(giv:List (E×Bool))(es:List E)(g:List Bool->V):Lf->Bool:=lu (dG (abQ m) tb λK=>dV (rows K)) f dW giv es g [.g bK]
def guardE:E:=ands [.not (.lt 2 1),.not (.lt 3 1),.not (.lt 0 0),.lt 0 9,isE 76 1]
def gT:HT:=.by 2 1 .leaf (.by 3 1 .leaf (.by 0 0 .leaf (.by 0 9 (.both 76 1 .leaf) .leaf)))
def LG:Lf:=Lf.of (eH++[])
def LS:Lf:=(((((Lf.of (eH++[])).lo 2 1).lo 3 1).lo 0 0).hi 0 8).pin 76 1
theorem ad8:aG (run true cu (λ_=>[]) [] [] λ_=>V.s (.bool false)) .leaf LG=true:=by kernel_rfl
theorem abz:aG (run false cu (λ_=>[]) [(guardE,false)] [] λ_=>V.s (.bool false)) gT LG=true:=by kernel_rfl
theorem a2N:aG (run false cu (λK=>[(f,rowT .ret sR K)]) [] [] λ_=>V.s (.bool false)) .leaf LS=true:=by kernel_rfl
theorem abE:aG (run false (cu.app QI) (λK=>[(f,rowT (.exit 0) sN K)]) [(head.okN,true),(isE 62 0,false)] [] λ_=>V.s (.bool false)) head.hTy LS=true:=by kernel_rfl
theorem acU:aG (run false (cu.app QI) (λK=>[(f,rowT (.exit 0) sN K),(f,rowB .ret sR K)]) [(head.okN,true),(isE 62 0,true)] [] λ_=>V.s (.bool false)) head.hTy LS=true:=by kernel_rfl
theorem nU:aG (run false (cu.app QI) (λK=>[(f,rowT (.exit 0) sN K),(f,rowB (.exit 2) sN K)]) [(head.okN,true),(isE 62 0,true)] [] λ_=>V.s (.bool true)) head.hTy LS=true:=by kernel_rfl
theorem a0t:fU (F.body.getD .skip) 0 5=true:=by kernel_rfl
theorem abd:fU (F.body.getD .skip) 1 12=true:=by kernel_rfl
