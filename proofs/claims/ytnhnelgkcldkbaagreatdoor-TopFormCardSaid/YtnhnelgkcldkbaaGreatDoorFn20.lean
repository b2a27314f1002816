/- What the reference's block answers. What the reference's Made answers. -/
import Derived.Test.YtnhnelgkcldkbaaGreatDoorFn18
set_option linter.all false
set_option maxRecDepth 100000
namespace Go.Proofs.YtnhnelgkcldkbaaGreatDoor
namespace block
open Go.RowKit Am
def mR (G:Nat->Int):List Int:=cZ [G]++[]
def okS (D:FnD)(st:List Value):Bool:=dK.val st&&!far.uH (twos.tJ st) D.ls.length
def a2H (nB:Int)(b:bU):Bool:=(decide (ah b.pre 0=3)||decide (ah b.pre 0=5))||(decide (ah b.pre 7<nB)&&(!decide (ah b.pre 0=2)||(decide (ah b.pre 7=ah b.pre 8)||decide (ah b.pre 8<nB))))
def okB (D:FnD)(b:bU):Bool:=b.st.all (okS D)&&(xJ b&&(!far.uH (occJump.pK b) D.ls.length&&a2H D.bs.length b))
theorem a6Y (st:List Value):∀j,-9223372036854775808<=twos.tJ st j/\twos.tJ st j<=9223372036854775807:=λj=>by
 have:=twos.UY st j
 omega
theorem Wl (b:bU)(hl:b.ops.length<=1000):∀j,0<=occJump.pK b j/\occJump.pK b j<=1001:=λj=>by
 have h1:=occJump.a3C b.ops
 have h2:=AB (F:=occJump.Hf b) (l:=ah b.post 0) (M:=b.ops.length) h1 j
 have h3:=AB (F:=occurs.o0) (l:=ah b.pre 3) (M:=0) (λj=>⟨agd _,agd _⟩) j
 have h1:=h1 j
 unfold occJump.pK
 unfold occJump.Hf at h2 |-
 split
 ·split
  ·omega
  ·omega
 ·split
  ·omega
  ·omega
section
variable {w:World} {v:Value} {D:FnD} (h:aZ w v D)
include h
theorem Vp (q:At)(G:Nat->Int)(hG:∀j,-9223372036854775808<=G j/\G j<=9223372036854775807)(h1:1<=D.ls.length)(h16:D.ls.length<=16){b:Bool}(hb:far.uH G D.ls.length=b)(K:Know)(ok:aC K (fnB w D q (mR G)).rho (fnB w D q (mR G)).sig):@Sound ((fnB w D q (mR G)).aF K ok) Tryz.prog (rF b):=by
 refine @fM ((fnB w D q (mR G)).aF K ok) _ far.f ⟨_,Tryz.func189,by kernel_rfl,by kernel_rfl⟩ _ _ (by rfl) [pX G,.int .i64 D.ls.length] ⟨@vO ((fnB w D q (mR G)).aF K ok) 0 G (λj hj=>gG (D:=D) (q:=q) (fs:=[G]) (tail:=[]) (b:=0) rfl hj) r0,rfl,trivial⟩ (.bool b) (λr=>vmB _ r b) λw' hw=>?_
 rw[<-hb]
 exact far.a8t G hG D.ls.length h1 h16 w'
theorem BA {F:FuncId}(hF:dJ Tryz.prog F){q:At}{G:Nat->Int}{cs:List S}{u:Value}(hu:au (@VA (fnB w D q (mR G)) r0) [.g cs] [u])(h1:[A.g cs].all A.vW=true)(ha:∀w',aZ w' v D->bM F [u] w' (pX G))(K:Know)(ok:aC K (fnB w D q (mR G)).rho (fnB w D q (mR G)).sig):@Sound ((fnB w D q (mR G)).aF K ok) Tryz.prog (nJ F [.g cs] (.a (.g (bV 0)))):=by
 refine @fM ((fnB w D q (mR G)).aF K ok) _ F hF _ _ h1 [u] hu (pX G) (λr=>@vO ((fnB w D q (mR G)).aF K ok) 0 G (λj hj=>gG (D:=D) (q:=q) (fs:=[G]) (tail:=[]) (b:=0) rfl hj) r) λw' hw=>ha w' (h.frz hw)
theorem inner {i:Nat}{q:At}{m:List Int}(hq:q.i=i)(hi:i<D.bs.length)(hB:D.bs.length<=1000)(hS:(D.blk i).st.length<=1000)(h1:1<=D.ls.length)(h16:D.ls.length<=16):
  ((D.blk i).st.all (okS D)=true->∀K (ok:aC K (fnB w D q m).rho (fnB w D q m).sig),@aO ((fnB w D q m).aF K ok) Tryz.prog (row (.exit 0) sN K) ng)/\
  ((D.blk i).st.all (okS D)=false->∀K (ok:aC K (fnB w D q m).rho (fnB w D q m).sig),@aO ((fnB w D q m).aF K ok) Tryz.prog (row .ret sR K) ng):=by
 let bk:Nat->At:=made.atS i
 let mk:Nat->List Int:=λk=>mR (twos.tJ (D.stm i k))
 have fit:∀k,k<=(D.blk i).st.length->Fits D (bk k):=λk hk=>iL ⟨by show i<=1000;omega,by show k<=1000;omega,afb _,afb _⟩
 have st:∀k,k<=(D.blk i).st.length->((Lf.of (eH++[])).pin 6 1).Holds (aA (aH D (bk k) (mk k))) (λ_=>[]):=λk hk=>(twos.dU h (bk k) (fit k hk) (mk k)).pin (i:=6) (c:=1) (show b2i (decide ((i:Int)<D.bs.length))=1 from(dh _).2 (by omega))
 have us:∀u∈[isU (.xi .i64 21) (.int .i64 0)],iQ (fnB w D q m) (fnB w D (bk 0) (mk 0)) u:=λu hu=>by
  obtain rfl:=aeR.1 hu
  exact dM λr v hv=>hv
 have tb:∀k,k<(D.blk i).st.length->@bQ (fnB w D (bk k) (mk k)) tbI:=λk hk=>@aX (fnB w D (bk k) (mk k)) _ _ (aS h _ _) (@aX (fnB w D (bk k) (mk k)) _ _ (dN h (q:=bk k) hi _) (Ci h (q:=bk k) hi hk _))
 have pin1:∀k,k<(D.blk i).st.length->L1.Holds (aA (aH D (bk k) (mk k))) (λ_=>[]):=λk hk=>(st k (by omega)).pin (i:=23) (c:=1) (show b2i (decide ((k:Int)<(D.blk i).st.length))=1 from(dh _).2 (by omega))
 have pV:∀k (hk:k<(D.blk i).st.length) b,dK.val (D.stm i k)=b->∀K (ok:aC K (fnB w D (bk k) (mk k)).rho (fnB w D (bk k) (mk k)).sig),@Sound ((fnB w D (bk k) (mk k)).aF K ok) Tryz.prog (rV b):=λk hk b e=>
  Xd h ⟨_,Tryz.func61,by kernel_rfl,by kernel_rfl⟩ LX vmB (q:=bk k) hi hk e _
 have pO:∀k (hk:k<(D.blk i).st.length),dK.val (D.stm i k)=true->∀K (ok:aC K (fnB w D (bk k) (mk k)).rho (fnB w D (bk k) (mk k)).sig),@Sound ((fnB w D (bk k) (mk k)).aF K ok) Tryz.prog rO:=λk hk e=>
  BA h ⟨_,Tryz.func146,by kernel_rfl,by kernel_rfl⟩ (occurs.Uw h (bk k) _ hi hk) (by rfl) λw' hw=>occurs.X3 hw hB hS hi hk e
 have pF:∀k (hk:k<(D.blk i).st.length) b,far.uH (twos.tJ (D.stm i k)) D.ls.length=b->∀K (ok:aC K (fnB w D (bk k) (mk k)).rho (fnB w D (bk k) (mk k)).sig),@Sound ((fnB w D (bk k) (mk k)).aF K ok) Tryz.prog (rF b):=λk hk b e=>
  Vp h (bk k) _ (a6Y _) h1 h16 e
 have rg:∀k (hk:k<(D.blk i).st.length) (l:List aU),(∀K (ok:aC K (fnB w D (bk k) (mk k)).rho (fnB w D (bk k) (mk k)).sig),∀o∈l,@Sound ((fnB w D (bk k) (mk k)).aF K ok) Tryz.prog o)->jJ Tryz.prog (dG (Ee l) tbI bg) (fnB w D (bk k) (mk k)):=λk hk l hl=>
  fV (λK ok=>@kD ((fnB w D (bk k) (mk k)).aF K ok) _ _ (hl K ok)) (tb k hk) pR
 have step':∀k,k<(D.blk i).st.length->okS D (D.stm i k)=true->gY Tryz.prog (fnB w D (bk k) (mk k)) (fnB w D (bk (k+1)) (mk (k+1))) ng hd .normal hd:=λk hk hok=>by
  unfold okS at hok
  rw[aeI,ag3]at hok
  refine bI step (rg k hk _ λK ok o ho=>?_) (bY (bk k) (bk (k+1)) rfl _ _) (pin1 k hk) (aK D _ _) (λp hp=>by cases hp) (λu hu=>?_) rfl (bF f ng)
  ·simp only[aeQ,aeZ,afj]at ho
   rcases ho with rfl|rfl|rfl
   ·exact pV k hk true hok.1 K ok
   ·exact pO k hk hok.1 K ok
   ·exact pF k hk false hok.2 K ok
  ·obtain rfl:=aeR.1 hu
   exact dM λr v hv=>hv
 have rg0:∀k,jJ Tryz.prog (dG (Ee []) (cu.app iJ) bg) (fnB w D (bk k) (mk k)):=λk=>
  fV (λK ok=>@kD ((fnB w D (bk k) (mk k)).aF K ok) _ _ λo ho=>by cases ho) (@aX (fnB w D (bk k) (mk k)) _ _ (aS h _ _) (dN h (q:=bk k) hi _)) pR
 constructor
 ·intro hall K ok
  have hall:=(iW (D.blk i).st [] (okS D)).2 hall
  refine @dn _ _ (λk=>fnB w D (bk k) (mk k)) ng _ _ hd _ _ (λe=>by cases e) (D.blk i).st.length (bY q (bk 0) hq _ _) us (λk hk=>step' k hk (hall k hk)) ?_ 3 K ok
  refine bI stop (rg0 _) (bY (bk (D.blk i).st.length) q hq.symm _ _) (L:=L3) ?_ (aK D _ _) (λp hp=>by cases hp) (λu hu=>by cases hu) rfl (bF f ng)
  exact(st _ (aeM _)).pin (i:=23) (c:=0) (show b2i (decide (((D.blk i).st.length:Int)<(D.blk i).st.length))=0 by rw[af2 (by omega)];rfl)
 ·intro hbad K ok
  rcases jU (λk=>okS D (D.stm i k)) (D.blk i).st.length with hall|⟨N,hN,h0,hn⟩
  ·rw[(iW (D.blk i).st [] (okS D)).1 hall]at hbad
   cases hbad
  ·refine @dn _ _ (λk=>fnB w D (bk k) (mk k)) ng _ _ hd _ _ (λe=>by cases e) N (bY q (bk 0) hq _ _) us (λk hk=>step' k (by omega) (h0 k hk)) ?_ 3 K ok
   have hn:(dK.val (D.stm i N)&&!far.uH (twos.tJ (D.stm i N)) D.ls.length)=false:=hn
   cases hv:dK.val (D.stm i N)with
   |false=>exact bI a4g (rg N hN _ λK ok o ho=>by obtain rfl:=aeR.1 ho;exact pV N hN false hv K ok) (bY (bk N) q hq.symm _ _) (pin1 N hN) (aK D _ _) (λp hp=>by cases hp) (λu hu=>by cases hu) rfl (bF f ng)
   |true=>
    rw[hv,afY,agP]at hn
    refine bI sF (rg N hN _ λK ok o ho=>?_) (bY (bk N) q hq.symm _ _) (pin1 N hN) (aK D _ _) (λp hp=>by cases hp) (λu hu=>by cases hu) rfl (bF f ng)
    simp only[aeQ,aeZ,afj]at ho
    rcases ho with rfl|rfl|rfl
    ·exact pV N hN true hv K ok
    ·exact pO N hN hv K ok
    ·exact pF N hN true hn K ok
theorem aac (q:At)(m:List Int):vJ fxB (aA (aH D q m)):=by
 have h0:=aK D q m
 refine⟨λi c j hh=>(by cases hh),⟨h0.xt.lf,h0.xt.sm,h0.xt.ld,h0.xt.sr,λi j d hm=>?_⟩⟩
 rcases aeQ.1 (show(i,j,d)∈(16,15,74)::dW.xt.eq from hm)with e|hm
 ·cases e
  exact(h0.xt.eq 15 16 74 (afh ..)).trans ⟨λe=>e.symm,λe=>e.symm⟩
 ·exact h0.xt.eq i j d hm
theorem a4i {i:Nat}(hi:i<D.bs.length)(m:List Int):au (@VA (fnB w D (atB i) m) r0) [.g bK,.g lU] [v,.agg (D.blk i).cells.toArray]:=by
 have hc:=N9 h hi (atB i) rfl m
 refine⟨wF h (atB i) m r0,⟨_,rfl,fZ hc.len λn x u hx hu=>?_⟩,trivial⟩
 obtain⟨u',hu',e⟩:=au.nth hc (n:=n) (x:=x) (by rw[aI];exact hx)
 rw[hu]at hu'
 cases hu'
 exact e r0
theorem aa9 {i:Nat}(m:List Int):tgE.num (aA (aH D (atB i) m))=a2H D.bs.length (D.blk i):=by
 have e8:aA (aH D (atB i) m) 8=ah (D.blk i).pre 0:=rfl
 have e72:aA (aH D (atB i) m) 72=b2i (decide (ah (D.blk i).pre 7<D.bs.length)):=rfl
 have e73:aA (aH D (atB i) m) 73=b2i (decide (ah (D.blk i).pre 8<D.bs.length)):=rfl
 have e74:aA (aH D (atB i) m) 74=b2i (decide (ah (D.blk i).pre 7=ah (D.blk i).pre 8)):=rfl
 unfold a2H
 simp only[tgE,isE,E.num,afz,agV,afg,e8,e72,e73,e74,made.eG]
theorem ZA {i:Nat}(hi:i<D.bs.length)(hB:D.bs.length<=1000)(hS:(D.blk i).st.length<=1000)(h1:1<=D.ls.length)(h16:D.ls.length<=16):bM f [v,.agg (D.blk i).cells.toArray] w (.bool (okB D (D.blk i))):=by
 have hj:=sU h hi
 let m:List Int:=mR (occJump.pK (D.blk i))
 have inn:=inner h (i:=i) (q:=atB i) (m:=m) rfl hi hB hS h1 h16
 have hLB:LB.Holds (aA (aH D (atB i) m)) (λ_=>[]):=(twos.dU h (atB i) (fD (by omega)) m).pin (i:=6) (c:=1) (show b2i (decide ((i:Int)<D.bs.length))=1 from(dh _).2 (by omega))
 have tb:@bQ (fnB w D (atB i) m) (cu.app iJ):=@aX (fnB w D (atB i) m) _ _ (aS h _ _) (dN h (q:=atB i) hi _)
 have go:∀{l:List aU} {x:X} {s1:St} {es:List E} {g:List Bool->V} {hs:HT} {u:Bool},aG (run l x s1 es g) hs LB=true->(∀K (ok:aC K (fnB w D (atB i) m).rho (fnB w D (atB i) m).sig),@aO ((fnB w D (atB i) m).aF K ok) Tryz.prog (row x s1 K) ng)->
   (∀K (ok:aC K (fnB w D (atB i) m).rho (fnB w D (atB i) m).sig),∀o∈l,@Sound ((fnB w D (atB i) m).aF K ok) Tryz.prog o)->g (es.map (E.num (aA (aH D (atB i) m))))=V.s (.bool u)->bM f [v,.agg (D.blk i).cells.toArray] w (.bool u):=λ{l x s1 es g hs u} hr hl ho e=>by
  have hR:jJ Tryz.prog (dG (Ee l) (cu.app iJ) λK=>dV [(f,row x s1 K)]) (fnB w D (atB i) m):=
   fV (λK ok=>@kD ((fnB w D (atB i) m).aF K ok) _ _ (ho K ok)) tb (rows_ok (T:=λK=>[(f,row x s1 K)]) λK ok p hp=>by
    obtain rfl:=aeR.1 hp
    exact⟨F,Tryz.func144,λc hc=>iH tag (hl K ok) hc⟩)
  have:=jI (b:=fnB w D (atB i) m) (w:=w) (aeM _) (λ_ _=>rfl) hR hLB (aac h (atB i) m) (λp hp=>by cases hp) (a4i h hi m) hr
  rw[show(fnB w D (atB i) m).rho=aA (aH D (atB i) m)from rfl,e]at this
  exact bM.of (b:=fnB w D (atB i) m) (v:=V.s (.bool u)) (λr x hx=>hx) this
 have pV:∀b,xJ (D.blk i)=b->∀K (ok:aC K (fnB w D (atB i) m).rho (fnB w D (atB i) m).sig),@Sound ((fnB w D (atB i) m).aF K ok) Tryz.prog (rVJ b):=λb e=>
  OY h ⟨_,Tryz.func85,by kernel_rfl,by kernel_rfl⟩ Sj vmB (q:=atB i) hi e _
 have pO:xJ (D.blk i)=true->∀K (ok:aC K (fnB w D (atB i) m).rho (fnB w D (atB i) m).sig),@Sound ((fnB w D (atB i) m).aF K ok) Tryz.prog rOJ:=λe=>
  BA h ⟨_,Tryz.func149,by kernel_rfl,by kernel_rfl⟩ (occJump.TQ h (atB i) rfl _ hi) (by rfl) λw' hw=>occJump.Q5 hw hi hB e
 have pF:xJ (D.blk i)=true->∀b,far.uH (occJump.pK (D.blk i)) D.ls.length=b->∀K (ok:aC K (fnB w D (atB i) m).rho (fnB w D (atB i) m).sig),@Sound ((fnB w D (atB i) m).aF K ok) Tryz.prog (rF b):=λe b eb=>
  Vp h (atB i) _ (λj=>by
   have:=Wl (D.blk i) (by have:=AV (ji hj) e;omega) j
   omega) h1 h16 eb
 unfold okB
 cases hs:(D.blk i).st.all (okS D)with
 |false=>exact go acu (inn.2 hs) (λK ok o ho=>by cases ho) rfl
 |true=>
  rw[afY]
  have hl:=inn.1 hs
  cases hv:xJ (D.blk i)with
  |false=>exact go adA hl (λK ok o ho=>by obtain rfl:=aeR.1 ho;exact pV false hv K ok) rfl
  |true=>
   rw[afY]
   cases hf:far.uH (occJump.pK (D.blk i)) D.ls.length with
   |true=>exact go abu hl (λK ok o ho=>by
     simp only[aeQ,aeZ,afj]at ho
     rcases ho with rfl|rfl|rfl
     ·exact pV true hv K ok
     ·exact pO hv K ok
     ·exact pF hv true hf K ok) rfl
   |false=>exact go a2N hl (λK ok o ho=>by
     simp only[aeQ,aeZ,afj]at ho
     rcases ho with rfl|rfl|rfl
     ·exact pV true hv K ok
     ·exact pO hv K ok
     ·exact pF hv false hf K ok) (by
     show V.s (.bool (tgE.num (aA (aH D (atB i) m))))=_
     rw[aa9 h m]
     rfl)
end
end block
namespace madeR
open Go.RowKit Am
def guard (D:FnD):Bool:=decide (0<D.ls.length)&&(decide (0<D.bs.length)&&(decide (0<=D.p)&&(decide (D.p<=8)&&decide (D.p<D.ls.length))))
def vN (D:FnD):Bool:=!many.jq D&&(guard D&&(D.ls.all qm&&(!head.Qw D&&D.bs.all (block.okB D))))
section
variable {w:World} {v:Value} {D:FnD} (h:aZ w v D)
include h
theorem Eb (q:At):guardE.num (aA (aH D q []))=guard D:=by
 show((!decide ((D.ls.length:Int)<1))&&((!decide ((D.bs.length:Int)<1))&&((!decide (D.p<0))&&(decide (D.p<9)&&(decide (b2i (decide (D.p<D.ls.length))=1)&&true)))))=_
 unfold guard
 rw[afg,afG.2 (dh (D.p<D.ls.length)),<-ahq,<-ahq,<-ahq]
 congr 1
 ·exact afG.2 (by omega)
 congr 1
 ·exact afG.2 (by omega)
 congr 1
 ·exact afG.2 (by omega)
 congr 1
 exact afG.2 (by omega)
theorem typs (hl:D.ls.length<=1000){b:Bool}(hb:D.ls.all qm=b)(K:Know)(ok:aC K (fnB w D (atT 0) []).rho (fnB w D (atT 0) []).sig):
  @aO ((fnB w D (atT 0) []).aF K ok) Tryz.prog (rowT (if b then .exit 0 else .ret) (if b then sN else sR) K) iE:=by
 have us:∀u∈[isU (.xi .i64 58) (.int .i64 0)],iQ (fnB w D (atT 0) []) (fnB w D (atT 0) []) u:=λu hu=>by
  obtain rfl:=aeR.1 hu
  exact dM λr v hv=>hv
 have hin:∀k,k<D.ls.length->L1.Holds (aA (aH D (atT k) [])) (λ_=>[]):=λk hk=>(twos.dU h (atT k) (Ib (by omega)) []).pin (i:=60) (c:=1) (show b2i (decide ((k:Int)<D.ls.length))=1 from(dh _).2 (by omega))
 have htb:∀k,k<D.ls.length->@bQ (fnB w D (atT k) []) (cu.app O0):=λk hk=>@aX (fnB w D (atT k) []) cu O0 (aS h _ _) (Wx h (q:=atT k) hk _)
 have hok:∀k b,qm (D.typ k)=b->∀p∈[(head.okN,b)],p.1.num (aA (aH D (atT k) []))=p.2:=λk b e p hp=>by
  obtain rfl:=aeR.1 hp
  exact(FX (atT k) [] (e:=EI) rfl).trans e
 have hstep:∀k,k<D.ls.length->qm (D.typ k)=true->gY Tryz.prog (fnB w D (atT k) []) (fnB w D (atT (k+1)) []) iE hdT .normal hdT:=λk hk e=>by
  refine bI stepT (bC (htb k hk)) (bJ _ _ _ _) (hin k hk) (aK D _ _) (hok k true e) (λu hu=>?_) rfl (bF f iE)
  obtain rfl:=aeR.1 hu
  exact dM λr v hv=>hv
 have hend:gY Tryz.prog (fnB w D (atT D.ls.length) []) (fnB w D (atT 0) []) iE hdT (.exit 0) sN:=
  bI PS (bC (aS h _ _)) (bJ _ _ _ _) (L:=L3) ((twos.dU h (atT D.ls.length) (Ib (by omega)) []).pin (i:=60) (c:=0) (show b2i (decide ((D.ls.length:Int)<D.ls.length))=0 by rw[af2 (by omega)];rfl)) (aK D _ _) (λp hp=>by cases hp) (λu hu=>by cases hu) rfl (bF f iE)
 cases b with
 |true=>
  have hall:=(iW D.ls [] qm).2 hb
  exact @dn _ _ (λk=>fnB w D (atT k) []) iE _ _ hdT _ _ (λe=>by cases e) D.ls.length (bJ _ _ [] []) us (λk hk=>hstep k hk (hall k hk)) hend 5 K ok
 |false=>
  rcases jU (λi=>qm (D.typ i)) D.ls.length with hall|⟨N,hN,h0,hn⟩
  ·rw[(iW D.ls [] qm).1 hall]at hb
   cases hb
  ·exact @dn _ _ (λk=>fnB w D (atT k) []) iE _ _ hdT _ _ (λe=>by cases e) N (bJ _ _ [] []) us (λk hk=>hstep k (by omega) (h0 k hk)) (bI a4k (bC (htb N hN)) (bJ _ _ _ _) (hin N hN) (aK D _ _) (hok N false hn) (λu hu=>by cases hu) rfl (bF f iE)) 5 K ok
theorem blks (hB:D.bs.length<=1000)(hS:∀b∈D.bs,b.st.length<=1000)(h1:1<=D.ls.length)(h16:D.ls.length<=16){b:Bool}(hb:D.bs.all (block.okB D)=b)(K:Know)(ok:aC K (fnB w D (atB 0) []).rho (fnB w D (atB 0) []).sig):
  @aO ((fnB w D (atB 0) []).aF K ok) Tryz.prog (rowB (if b then .exit 2 else .ret) (if b then sN else sR) K) mX:=by
 have us:∀u∈[isU (.xi .i64 4) (.int .i64 0)],iQ (fnB w D (atB 0) []) (fnB w D (atB 0) []) u:=λu hu=>by
  obtain rfl:=aeR.1 hu
  exact dM λr v hv=>hv
 have mem:∀i,i<D.bs.length->D.blk i∈D.bs:=λi hi=>by
  unfold FnD.blk
  rw[af8,aeK hi]
  exact agl hi
 have hin:∀k,k<D.bs.length->LB1.Holds (aA (aH D (atB k) [])) (λ_=>[]):=λk hk=>(twos.dU h (atB k) (fD (by omega)) []).pin (i:=6) (c:=1) (show b2i (decide ((k:Int)<D.bs.length))=1 from(dh _).2 (by omega))
 have rg:∀k,k<D.bs.length->∀b,block.okB D (D.blk k)=b->jJ Tryz.prog (dG (rB b) (cu.app iJ) bg) (fnB w D (atB k) []):=λk hk b e=>by
  refine fV (λK ok=>?_) (@aX (fnB w D (atB k) []) cu iJ (aS h _ _) (dN h (q:=atB k) hk _)) pR
  refine @fM ((fnB w D (atB k) []).aF K ok) _ block.f ⟨_,Tryz.func144,by kernel_rfl,by kernel_rfl⟩ _ _ (by rfl) [v,.agg (D.blk k).cells.toArray] (block.a4i h hk []) (.bool b) (λr=>vmB _ r b) λw' hw=>?_
  rw[<-e]
  exact block.ZA (h.frz hw) hk hB (hS _ (mem k hk)) h1 h16
 have hstep:∀k,k<D.bs.length->block.okB D (D.blk k)=true->gY Tryz.prog (fnB w D (atB k) []) (fnB w D (atB (k+1)) []) mX hdB .normal hdB:=λk hk e=>by
  refine bI a1W (rg k hk true e) (bJ _ _ _ _) (hin k hk) (aK D _ _) (λp hp=>by cases hp) (λu hu=>?_) rfl (bF f mX)
  obtain rfl:=aeR.1 hu
  exact dM λr v hv=>hv
 have hend:gY Tryz.prog (fnB w D (atB D.bs.length) []) (fnB w D (atB 0) []) mX hdB (.exit 2) sN:=
  bI ace (bC (aS h _ _)) (bJ _ _ _ _) (L:=LB0) ((twos.dU h (atB D.bs.length) (fD (by omega)) []).pin (i:=6) (c:=0) (show b2i (decide ((D.bs.length:Int)<D.bs.length))=0 by rw[af2 (by omega)];rfl)) (aK D _ _) (λp hp=>by cases hp) (λu hu=>by cases hu) rfl (bF f mX)
 cases b with
 |true=>
  have hall:=(iW D.bs b0 (block.okB D)).2 hb
  exact @dn _ _ (λk=>fnB w D (atB k) []) mX _ _ hdB _ _ (λe=>by cases e) D.bs.length (bJ _ _ [] []) us (λk hk=>hstep k hk (hall k hk)) hend 12 K ok
 |false=>
  rcases jU (λi=>block.okB D (D.blk i)) D.bs.length with hall|⟨N,hN,h0,hn⟩
  ·rw[(iW D.bs b0 (block.okB D)).1 hall]at hb
   cases hb
  ·exact @dn _ _ (λk=>fnB w D (atB k) []) mX _ _ hdB _ _ (λe=>by cases e) N (bJ _ _ [] []) us (λk hk=>hstep k (by omega) (h0 k hk)) (bI aaM (rg N hN false hn) (bJ _ _ _ _) (hin N hN) (aK D _ _) (λp hp=>by cases hp) (λu hu=>by cases hu) rfl (bF f mX)) 12 K ok
theorem ZP:bM f [v] w (.bool (vN D)):=by
 have hst:=twos.dU h (atB 0) (fD (by omega)) []
 have lib:∀b,many.jq D=b->∀K (ok:aC K (fnB w D (atB 0) []).rho (fnB w D (atB 0) []).sig),@Sound ((fnB w D (atB 0) []).aF K ok) Tryz.prog (abQ b K):=λb e=>
  BI h ⟨_,Tryz.func89,by kernel_rfl,by kernel_rfl⟩ (λb0 r=>vmB b0 r b) (atB 0) [] λw' hw=>e▸many.Q8 hw
 have go:∀{m:Bool} {tb:Tabs} {rows:Know->List (FuncId×Loops)} {giv:List (E×Bool)} {g:List Bool->V} {hs:HT} {L:Lf} {u:Bool},aG (run m tb rows giv [] g) hs L=true->many.jq D=m->@bQ (fnB w D (atB 0) []) tb->L.Holds (aA (aH D (atB 0) [])) (λ_=>[])->
   (∀K (ok:aC K (fnB w D (atB 0) []).rho (fnB w D (atB 0) []).sig),∀p∈rows K,∃F:Func,Tryz.prog.funcs[p.1]? =some F/\∀c,F.body=some c->Loops.ok (@aO ((fnB w D (atB 0) []).aF K ok) Tryz.prog p.2) c)->(∀p∈giv,p.1.num (aA (aH D (atB 0) []))=p.2)->g []=V.s (.bool u)->bM f [v] w (.bool u):=λ{m tb rows giv g hs L u} hr hm ht hL hrows hg e=>
  jM h hr (fV (lib m hm) ht (rows_ok hrows)) hL (aK D _ _) hg (λr x hx=>by
   have hx:@VV (fnB w D (atB 0) []) r (g []) x:=hx
   rw[e]at hx
   exact hx)
 unfold vN
 cases hm:many.jq D with
 |true=>exact go ad8 hm (aS h _ _) hst (λK ok p hp=>by cases hp) (λp hp=>by cases hp) rfl
 |false=>
  obtain⟨s1,s2,s3⟩:=check.xW hm
  rw[Bool.not_false,afY]
  cases hg:guard D with
  |false=>
   refine go abz hm (aS h _ _) hst (λK ok p hp=>by cases hp) (λp hp=>?_) rfl
   obtain rfl:=aeR.1 hp
   exact(Eb h _).trans hg
  |true=>
   have hg':=hg
   unfold guard at hg'
   simp only[aeI,af6]at hg'
   obtain⟨g1,g2,g3,g4,g5⟩:=hg'
   have hLS:LS.Holds (aA (aH D (atB 0) [])) (λ_=>[]):=((((hst.lo (i:=2) (c:=1) (show(1:Int)<=(D.ls.length:Int)by omega)).lo (i:=3) (c:=1) (show(1:Int)<=(D.bs.length:Int)by omega)).lo (i:=0) (c:=0) g3).hi (i:=0) (c:=8) g4).pin (i:=76) (c:=1) ((dh _).2 g5)
   have rT:∀b,D.ls.all qm=b->∀K (ok:aC K (fnB w D (atB 0) []).rho (fnB w D (atB 0) []).sig),∃F:Func,Tryz.prog.funcs[f]? =some F/\∀c,F.body=some c->Loops.ok (@aO ((fnB w D (atB 0) []).aF K ok) Tryz.prog (rowT (if b then .exit 0 else .ret) (if b then sN else sR) K)) c:=λb e K ok=>
    ⟨F,Tryz.func90,λc hc=>iH a0t (typs h (by omega) e K ok) hc⟩
   have rBk:∀b,D.bs.all (block.okB D)=b->∀K (ok:aC K (fnB w D (atB 0) []).rho (fnB w D (atB 0) []).sig),∃F:Func,Tryz.prog.funcs[f]? =some F/\∀c,F.body=some c->Loops.ok (@aO ((fnB w D (atB 0) []).aF K ok) Tryz.prog (rowB (if b then .exit 2 else .ret) (if b then sN else sR) K)) c:=λb e K ok=>
    ⟨F,Tryz.func90,λc hc=>iH abd (blks h (by omega) (λx hx=>by have:=s3 x hx;omega) (by omega) s1 e K ok) hc⟩
   rw[afY]
   cases ht:D.ls.all qm with
   |false=>exact go a2N hm (aS h _ _) hLS (λK ok p hp=>by obtain rfl:=aeR.1 hp;exact rT false ht K ok) (λp hp=>by cases hp) rfl
   |true=>
    have t0:@bQ (fnB w D (atB 0) []) (cu.app QI):=@aX (fnB w D (atB 0) []) cu QI (aS h _ _) (XM h (atB 0) rfl g1 [])
    have gv:∀b,(!head.Qw D)=!b->∀p∈[(head.okN,true),(isE 62 0,!b)],p.1.num (aA (aH D (atB 0) []))=p.2:=λb e p hp=>by
     simp only[aeQ,aeZ,afj]at hp
     rcases hp with rfl|rfl
     ·exact(FX (atT 0) [] (e:=EI) rfl).trans ((iW D.ls [] qm).2 ht 0 g1)
     ·show(decide (ah (D.typ 0) 1=0)&&true)=!b
      rw[afg,<-e]
      unfold head.Qw
      rw[Bool.not_not]
    rw[afY]
    cases hp:head.Qw D with
    |true=>exact go abE hm t0 hLS (λK ok p hp=>by obtain rfl:=aeR.1 hp;exact rT true ht K ok) (gv true (by rw[hp])) rfl
    |false=>
     rw[Bool.not_false,afY]
     cases hb:D.bs.all (block.okB D)with
     |false=>exact go acU hm t0 hLS (λK ok p hp=>by
       simp only[aeQ,aeZ,afj]at hp
       rcases hp with rfl|rfl
       ·exact rT true ht K ok
       ·exact rBk false hb K ok) (gv false (by rw[hp])) rfl
     |true=>exact go nU hm t0 hLS (λK ok p hp=>by
       simp only[aeQ,aeZ,afj]at hp
       rcases hp with rfl|rfl
       ·exact rT true ht K ok
       ·exact rBk true hb K ok) (gv false (by rw[hp])) rfl
