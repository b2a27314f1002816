/- Texts of operands and rvalues, out of their cells. -/
import Derived.Test.YtnhnelgkcldkbaaGreatDoorOrcU
import Derived.Test.YtnhnelgkcldkbaaGreatDoorFn4
set_option linter.all false
set_option maxRecDepth 100000
noncomputable section
open Nat renaming blt → aia
open List renaming range → aib
namespace Go.Proofs.YtnhnelgkcldkbaaGreatDoor
namespace Am
open Go.RowKit
def EJ (us:List Value)(o:Nat):Opd:=⟨ah us o,ah us (o+1),ah us (o+2),decide (ah us (o+3)=1),ah us (o+4)⟩
def Yz (us:List Value)(o:Nat):Rv:=⟨ah us o,EJ us (o+3),EJ us (o+8),ah us (o+1),ah us (o+2),ah us (o+13),decide (ah us (o+14)=1),ah us (o+15)⟩
def tN (l:List UInt8):List Nat:=l.map UInt8.toNat
def ZC (ks:List Kd)(x:S):Option (List Nat):=match x with
 | .int _ m=>some (tN (gy m))
 | .xi .i64 i=>bif F5 (nth ks i)then some [256+i]else none
 |_=>none
def Zk (ks:List Kd)(pls:List Pl)(L:Lf)(xs:List S)(o:Nat):Option (List Nat):=
 ob (nth xs o) λx=>ob (nth xs (o+1)) λy=>ob (nth xs (o+2)) λz=>ob (DV L [x,y,z] ks.length pls) λh=>some [h]
def I8 (x:S):Option Int:=match x with | .int _ n=>some n|_=>none
def opX (ks:List Kd)(pls:List Pl)(L:Lf)(xs:List S)(o:Nat):Option (List Nat):=
 ob (nth xs o) λk=>ob (I8 k) λk=>
  bif decide (k=1)then ob (nth xs (o+1)) (ZC ks)
  else bif decide (k=2)then ob (Zk ks pls L xs (o+2)) λp=>some (tN Wn++p)
  else bif decide (k=3)then ob (Zk ks pls L xs (o+2)) λp=>some (tN XA++p)
  else none
def rvX (ks:List Kd)(pls:List Pl)(L:Lf)(xs:List S)(o:Nat):Option (List Nat):=
 ob (nth xs o) λk=>ob (I8 k) λk=>
  bif decide (k=1)then opX ks pls L xs (o+3)
  else bif decide (k=2)then ob (opX ks pls L xs (o+3)) λa=>ob (nth xs (o+1)) λs=>ob (I8 s) λs=>ob (opX ks pls L xs (o+8)) λb=>some (a++(32::(sgn s).toNat::32::b))
  else bif decide (k=3)then ob (opX ks pls L xs (o+3)) λa=>ob (opX ks pls L xs (o+8)) λb=>some (40::(a++(44::32::(b++[41]))))
  else bif decide (k=4)||decide (k=5)then ob (nth xs (o+2)) λs=>ob (I8 s) λs=>ob (Zk ks pls L xs (o+13)) λp=>some (tN (a6D k s)++p)
  else none
theorem kE (sig:Nat->List UInt8):∀l:List UInt8,bW sig (tN l)=l
 |[]=>rfl
 |c::l=>by
  have h:aia c.toNat 256=true:=by
   have:=c.toNat_lt
   rw[afM]
   exact this
  show(bif aia c.toNat 256 then[UInt8.ofNat c.toNat]else sig (c.toNat-256))++bW sig (tN l)=_
  rw[h,kE sig l]
  simp
section
variable [Base] {r:Ren} {L:Lf} {ks:List Kd} {pls:List Pl} {xs:List S} {us:List Value}
theorem xY {x:S}{k:Int}(h:I8 x=some k){v:Value}(hv:VS r x v):bD v=k:=by
 unfold I8 at h
 split at h
 ·cases h;cases hv;rfl
 ·cases h
theorem zx (ha:au (VS r) xs us){i:Nat}{x:S}(h:nth xs i=some x):∃v,us[i]? =some v/\VS r x v/\ah us i=bD v:=by
 obtain⟨v,hv,hx⟩:=au.nth ha h
 exact⟨v,hv,hx,Hu hv⟩
theorem VH (d:Dec ks Base.rho Base.sig){x:S}{l:List Nat}(h:ZC ks x=some l){v:Value}(hv:VS r x v):bW Base.sig l=gy (bD v):=by
 unfold ZC at h
 split at h
 ·cases h;cases hv
  exact kE _ _
 ·rename_i i
  cases hi:F5 (nth ks i)<;>rw[hi]at h<;>simp only[aeW,aeS]at h
  ·cases h
  ·cases h;cases hv
   rw[iM]
   exact(d i (I9 hi)).1
 ·cases h
theorem Cc (hL:L.Holds Base.rho Base.sig)(e:PlE ks.length pls Base.rho Base.sig)(ha:au (VS r) xs us){o:Nat}{l:List Nat}(h:Zk ks pls L xs o=some l):
  bW Base.sig l=jF (ah us o) (decide (ah us (o+1)=1)) (ah us (o+2)):=by
 obtain⟨x,hx,h⟩:=aj h
 obtain⟨y,hy,h⟩:=aj h
 obtain⟨z,hz,h⟩:=aj h
 obtain⟨n,hn,h⟩:=aj h
 cases h
 obtain⟨u1,k1,v1,c1⟩:=zx ha hx
 obtain⟨u2,k2,v2,c2⟩:=zx ha hy
 obtain⟨u3,k3,v3,c3⟩:=zx ha hz
 obtain⟨j,p,hj,rfl,hp,hok⟩:=yV hn
 have hv:au (VS r) ((plT p).map L.nS) [u1,u2,u3]:=by
  rw[hp]
  exact⟨v1,v2,v3,trivial⟩
 have hu:=Nr hL hv
 simp only[ahz,agJ]at hu
 obtain⟨e1,e2,e3⟩:=hu
 rw[iM,e j p hj (O6 hL hok),c1,c2,c3,e1,e2,e3]
 simp only[bD]
 congr 1
 cases hd:decide (Base.rho p.2.1=1)<;>rfl
theorem xB (hL:L.Holds Base.rho Base.sig)(d:Dec ks Base.rho Base.sig)(e:PlE ks.length pls Base.rho Base.sig)(ha:au (VS r) xs us){o:Nat}{l:List Nat}(h:opX ks pls L xs o=some l):
  bW Base.sig l=opT (EJ us o):=by
 obtain⟨x,hx,h⟩:=aj h
 obtain⟨k,hk,h⟩:=aj h
 obtain⟨u,k1,v1,c1⟩:=zx ha hx
 rw[xY hk v1]at c1
 unfold opT
 rw[show(EJ us o).k=k from c1]
 cases h1:decide (k=1)<;>rw[h1]at h<;>simp only[aeW,aeS]at h
 ·simp only[afB]at h1
  rw[afc h1]
  cases h2:decide (k=2)<;>rw[h2]at h<;>simp only[aeW,aeS]at h
  ·simp only[afB]at h2
   rw[afc h2]
   cases h3:decide (k=3)<;>rw[h3]at h<;>simp only[aeW,aeS]at h
   ·cases h
   ·obtain⟨p,hp,h⟩:=aj h
    cases h
    rw[dI,kE,Cc hL e ha hp]
    rfl
  ·simp only[af6]at h2
   rw[afm h2]
   obtain⟨p,hp,h⟩:=aj h
   cases h
   rw[dI,kE,Cc hL e ha hp]
   rfl
 ·simp only[af6]at h1
  rw[afm h1]
  obtain⟨y,hy,h⟩:=aj h
  obtain⟨u2,k2,v2,c2⟩:=zx ha hy
  rw[VH d h v2,<-c2]
  rfl
theorem oH {sig:Nat->List UInt8}{n:Nat}(h:n<256)(l:List Nat):bW sig (n::l)=UInt8.ofNat n::bW sig l:=by
 show(bif aia n 256 then[UInt8.ofNat n]else sig (n-256))++bW sig l=_
 rw[show aia n 256=true by rw[afM];exact h]
 rfl
theorem aa0 (hL:L.Holds Base.rho Base.sig)(d:Dec ks Base.rho Base.sig)(e:PlE ks.length pls Base.rho Base.sig)(ha:au (VS r) xs us){o:Nat}{l:List Nat}(h:rvX ks pls L xs o=some l):
  bW Base.sig l=rvT (Yz us o):=by
 obtain⟨x,hx,h⟩:=aj h
 obtain⟨k,hk,h⟩:=aj h
 obtain⟨u,k1,v1,c1⟩:=zx ha hx
 rw[xY hk v1]at c1
 unfold rvT
 rw[show(Yz us o).k=k from c1]
 cases h1:decide (k=1)<;>rw[h1]at h<;>simp only[aeW,aeS]at h
 case true=>
  simp only[af6]at h1
  rw[afm h1,xB hL d e ha h]
  rfl
 simp only[afB]at h1
 rw[afc h1]
 cases h2:decide (k=2)<;>rw[h2]at h<;>simp only[aeW,aeS]at h
 case true=>
  simp only[af6]at h2
  obtain⟨a,hA,h⟩:=aj h
  obtain⟨s,hs,h⟩:=aj h
  obtain⟨n,hn,h⟩:=aj h
  obtain⟨b,hb,h⟩:=aj h
  cases h
  obtain⟨u2,k2,v2,c2⟩:=zx ha hs
  rw[xY hn v2]at c2
  rw[afm h2,dI,xB hL d e ha hA,oH (by decide),oH (UInt8.toNat_lt _),oH (by decide),xB hL d e ha hb]
  rw[show(Yz us o).op=n from c2]
  simp[Yz]
 simp only[afB]at h2
 rw[afc h2]
 cases h3:decide (k=3)<;>rw[h3]at h<;>simp only[aeW,aeS]at h
 case true=>
  simp only[af6]at h3
  obtain⟨a,hA,h⟩:=aj h
  obtain⟨b,hb,h⟩:=aj h
  cases h
  rw[afm h3,oH (by decide),dI,xB hL d e ha hA,oH (by decide),oH (by decide),dI,xB hL d e ha hb]
  rfl
 simp only[afB]at h3
 rw[afc h3]
 cases h4:(decide (k=4)||decide (k=5))<;>rw[h4]at h<;>simp only[aeW,aeS]at h
 ·cases h
 obtain⟨s,hs,h⟩:=aj h
 obtain⟨n,hn,h⟩:=aj h
 obtain⟨p,hp,h⟩:=aj h
 cases h
 obtain⟨u2,k2,v2,c2⟩:=zx ha hs
 rw[xY hn v2]at c2
 rw[dI,kE,Cc hL e ha hp,show(Yz us o).bo=n from c2]
 rfl
theorem a7F {l:List Nat}{u:Value}(h:VS r (S.wY l) u):u=.string ⟨(bW Base.sig l).toArray⟩:=by
 unfold S.wY at h
 cases hp:l.all (λn=>aia n 256)with
 |false=>rw[hp]at h;exact h
 |true=>
  rw[hp]at h
  have h:u=.string ⟨(l.map UInt8.ofNat).toArray⟩:=h
  rw[qU _ hp]
  exact h
end
def Texts (P:Program)(Q:World->Prop)(F:FuncId)(ks:List Kd)(e:E)(T:List Value->List UInt8)(val:List UInt8->Value):Prop:=
 ∀us,au Kd.ok ks us->e.val us=true->∀w:World,Q w->Calls P F #[.agg us.toArray] w λx w'=>x=.returned (val (T us))/\Below w.heap.size w w'
def vS1 (l:List UInt8):Value:=.string ⟨l.toArray⟩
def vS2 (l:List UInt8):Value:=.tuple #[.string ⟨l.toArray⟩,.int .i64 0]
def mS1 (x:S):V:=V.s x
def mS2 (x:S):V:=.t [.s x,.s (.int .i64 0)]
theorem OO (b0:Base)(r:Ren)(l:List Nat)(u:Value)(h:@VV b0 r (mS2 (S.wY l)) u):u=vS2 (bW b0.sig l):=by
 obtain⟨us,rfl,h⟩:=h
 match us,h with
 |[x,y],⟨h1,h2,_⟩=>
  rw[@a7F b0 r l x h1,show y=.int .i64 0 from h2]
  rfl
def EG (e:E)(ks:List Kd)(mk:S->V)(exp:Option (List Nat))(L:Lf)(r:R):Bool:=
 Option.rec false (λb=>bif b then Option.rec false (λl=>wZ (mk (S.wY l)) r) exp else true) (@E.abs (L.know (fF 0 ks)) ((dD 0 ks).map L.nS) e)
def tX (ks:List Kd)(L:Lf):List S:=(dD 0 ks).map L.nS
section
variable {F:FuncId} {ks:List Kd} {e:E} {T:List Value->List UInt8} {val:List UInt8->Value} {pls:List Pl}
def ad7 (ks:List Kd)(pls:List Pl)(L:Lf):aU:=λf a h fl=>orR (TT (L.know (fF 0 ks)) f a h fl) (aa5 L ks pls noO f a h fl)
def runT (F:FuncId)(ks:List Kd)(pls:List Pl)(L:Lf):R:=@runs (L.know (fF 0 ks)) (oq Tryz.prog) (pJ Tryz.prog) (ad7 ks pls L) 30 15 F [.g (tX ks L)] ⟨[],0⟩ 0
theorem Rx {mk:S->V}(hmk:∀(b0:Base) r l u,@VV b0 r (mk (S.wY l)) u->u=val (bW b0.sig l))(exp:Lf->List S->Option (List Nat))
  (hexp:∀(b0:Base) (L:Lf) (r:Ren) (xs:List S) (us:List Value) (l:List Nat),L.Holds b0.rho b0.sig->Dec ks b0.rho b0.sig->PlE ks.length pls b0.rho b0.sig->@au _ _ (@VS b0 r) xs us->exp L xs=some l->bW b0.sig l=T us)
  (hpl:pls.all (λp=>decide (p.1<ks.length)&&decide (p.2.1<ks.length)&&decide (p.2.2<ks.length))=true) {sp:Sp}
  (hrun:((sp.leaves (Lf.Iu [(true,ks)] pls.length)).all λL=>EG e ks mk (exp L (tX ks L)) L (runT F ks pls L))=true):Texts Tryz.prog iq F ks e T val:=by
 intro us hk he w hw
 have hg:Gps [(true,ks)] [.agg us.toArray] us:=⟨us,[],(aft _).symm,⟨hk,.inl ⟨rfl,rfl⟩⟩,rfl⟩
 have hks:fC [(true,ks)]=ks:=by simp[fC]
 have hlen:us.length=ks.length:=by have:=hk.len;omega
 have kk:=Ik hg (FQ us pls)
 have d:=KF hg (plX us pls)
 have ee:PlE ks.length pls (dH (kH us (plX us pls))) (gu (kH us (plX us pls))):=by
  rw[<-hlen]
  exact a9r (by rw[hlen];exact hpl)
 rw[hks]at kk d
 have hl:(plX us pls).length=pls.length:=by simp[plX]
 have hst:=Lf.KH hg (FQ us pls)
 rw[hl]at hst
 obtain⟨L,hm,hL⟩:=sp.cover hst
 have hp:=aeV.1 hrun L hm
 letI b0:Base:=base0 w (Lf.ok hL kk)
 have ha':au (VA r0) [.g (dD 0 ks)] [.agg us.toArray]:=
  xC (cs:=kH us (plX us pls)) rfl rfl ((plX us pls).map λx=>.string ⟨x.toArray⟩) (gs:=[(true,ks)]) (pre:=[]) (cs':=us) rfl hg
 have ha:=Lf.xU hL ha'
 unfold EG at hp
 cases hb:@E.abs (L.know (fF 0 ks)) ((dD 0 ks).map L.nS) e with
 |none=>rw[hb]at hp;cases hp
 |some b=>
  rw[hb]at hp
  have ha2:=ha
  obtain⟨⟨us',e1,hus⟩,_⟩:=ha2
  have e1:Value.agg us.toArray=.agg us'.toArray:=e1
  obtain rfl:us=us':=by simpa using e1
  have hbv:=E.qZ hus hb
  rw[he]at hbv
  subst hbv
  have hp:(Option.rec false (λl=>wZ (mk (S.wY l)) (runT F ks pls L)) (exp L (tX ks L)):Bool)=true:=hp
  cases hx:exp L (tX ks L)with
  |none=>rw[hx]at hp;cases hp
  |some l=>
   rw[hx]at hp
   obtain⟨h',hr⟩:=yL hp
   have hS:Sound Tryz.prog (@runs (L.know (fF 0 ks)) (oq Tryz.prog) (pJ Tryz.prog) (ad7 ks pls L) 30 15):=
    @Aq w _ _ _ (Lf.ok hL kk) _ (@fG (base0 w (Lf.ok hL kk)) _ _ _ (CP (base0 w (Lf.ok hL kk))) (GX hL kk d ee hw (Qg _))) 30 15
   refine(je w hw.size (λ_ _=>rfl) hS ha hr).mono λx w' ⟨u,r',e1,e2,e3⟩=>⟨?_,e3⟩
   rw[e1,hmk b0 _ _ _ e2,hexp b0 L r0 _ _ _ hL d ee hus hx]
end
def tlP:List Pl:=[(0,(1,2))]
def tlT:Sp:=.cut 0 0 .leaf (.cut 0 16 (.cut 2 3 .leaf .leaf) .leaf)
theorem UO:Texts Tryz.prog iq 23 kPl (dX 0) (λus=>jF (ah us 0) (decide (ah us 1=1)) (ah us 2)) vS2:=Rx OO (pls:=tlP) (λL xs=>Zk kPl tlP L xs 0) (λb0 L r xs us l hL d e ha h=>@Cc b0 r L kPl tlP xs us hL e ha 0 l h) (by kernel_rfl) (sp:=tlT) (by kernel_rfl)
def tpP:List Pl:=[(2,(3,4))]
def adX:Lf:=Lf.Iu [(true,kOp)] tpP.length
def acH:Sp:=(.cut 0 1 .leaf (.cut 0 2 (.conj [(2,0),(3,0),(4,0)] .leaf .leaf) (.cut 0 3 (.cut 1 0 .leaf (.cut 1 1 (.cut 2 0 .leaf (.cut 2 16 (.cut 4 3 .leaf .leaf) .leaf)) .leaf)) (.cut 0 4 (.cut 1 0 .leaf (.cut 1 1 (.cut 2 0 .leaf (.cut 2 16 (.cut 4 3 .leaf .leaf) .leaf)) .leaf)) .leaf))))
def Vh (L:Lf):Bool:=EG (aY 0) kOp mS2 ((λL xs=>opX kOp tpP L xs 0) L (tX kOp L)) L (runT 121 kOp tpP L)
theorem a3T:(acH.leaves adX).all Vh=true:=by kernel_rfl
theorem IJ:Texts Tryz.prog iq 121 kOp (aY 0) (λus=>opT (EJ us 0)) vS2:=Rx OO (pls:=tpP) (λL xs=>(λL xs=>opX kOp tpP L xs 0) L xs) (λb0 L r xs us l hL d e ha h=>@xB b0 r L kOp tpP xs us hL d e ha 0 l h) (by kernel_rfl) (sp:=acH) a3T
def qB (sep:List UInt8):List (List UInt8)->List UInt8
 |[]=>[]
 |[x]=>x
 |x::y::r=>x++sep++qB sep (y::r)
theorem JE (sep:List UInt8):∀ss:List (List UInt8),qB sep ss=Lib.join ss sep
 |[]=>by simp[qB,Lib.join]
 |[x]=>by simp[qB,Lib.join]
 |x::y::r=>by
  have ih:=JE sep (y::r)
  unfold Lib.join at ih |-
  rw[qB,ih]
  simp[List.intercalate,List.intersperse]
theorem iq.all {w w0:World}(k:iq w0)(h:∀b,b<3->w.heap[b]? =w0.heap[b]?):iq w:=by
 refine⟨?_,k.here h⟩
 have hs:=k.size
 have h3:w0.heap[2]? =some w0.heap[2]:=afU (by omega)
 have:=(aeN.1 ((h 2 (by decide)).trans h3)).1
 omega
def Dq (sep:List Nat):List (List Nat)->List Nat
 |[]=>[]
 |[x]=>x
 |x::y::r=>x++(sep++Dq sep (y::r))
def TL (K:Know):aU:=λf args h _=>bif f==159 then(match args with
 |[.s (.sl l o n 1 _),.s sep]=>ob sep.txt λsp=>ob (h.read l o n) λcs=>ob (rE S.txt cs) λss=>ob (@mxX K (Dq sp ss)) λm=>bif Nat.ble m 1000000&&Nat.ble n 1000000 then some (V.s (S.wY (Dq sp ss)),h)else none
 |[.s .uQ,.s sep]=>ob sep.txt λ_=>some (V.s (.str []),h)
 |_=>none)else none
theorem wL [Base](sig:Nat->List UInt8)(sep:List Nat):∀ss:List (List Nat),bW sig (Dq sep ss)=qB (bW sig sep) (ss.map (bW sig))
 |[]=>rfl
 |[x]=>rfl
 |x::y::r=>by
  have ih:=wL sig sep (y::r)
  rw[Dq,dI,dI,ih]
  simp only[afr,qB,af9]
theorem a7r (b0:Base){r:Ren}(l:List Nat):@VS b0 r (S.wY l) (.string ⟨(bW b0.sig l).toArray⟩):=by
 unfold S.wY
 cases h:l.all (λn=>aia n 256)
 ·rfl
 ·show _=Value.string _
  rw[qU b0.sig h]
theorem Ws (b0:Base){r:Ren}:∀{cs:List S} {ss:List (List Nat)} {us:List Value},rE S.txt cs=some ss->au (@VS b0 r) cs us->us=ss.map λl=>Value.string ⟨(bW b0.sig l).toArray⟩
 |[],ss,[],h,_=>by cases h;rfl
 |[],_,_::_,_,h=>h.elim
 |_::_,_,[],_,h=>h.elim
 |c::cs,ss,u::us,h,k=>by
  rw[lQ]at h
  obtain⟨l,hl,h⟩:=aj h
  obtain⟨q,hq,h⟩:=aj h
  cases h
  rw[afr,@kX b0 _ _ _ hl _ k.1,Ws b0 hq k.2]
theorem RZ (b0:Base):@Sound b0 Tryz.prog (TL b0.toKnow):=by
 intro f args h fl v h' e
 unfold TL at e
 cases hf:(f==159)<;>rw[hf]at e<;>simp only[aeW,aeS]at e
 ·cases e
 obtain rfl:f=159:=by simpa using hf
 refine⟨⟨_,Tryz.func159,by kernel_rfl,by kernel_rfl⟩,λr B w vs hi ha=>?_⟩
 split at e
 ·rename_i l o n c sepS
  obtain⟨sep,hsep,e⟩:=aj e
  obtain⟨cs,hcs,e⟩:=aj e
  obtain⟨ss,hss,e⟩:=aj e
  obtain⟨m,hm,e⟩:=aj e
  cases hb:(Nat.ble m 1000000&&Nat.ble n 1000000)<;>rw[hb]at e<;>simp only[aeW,aeS]at e
  ·cases e
  cases e
  simp only[aeI]at hb
  have hb1:=aff hb.1
  have hb2:=aff hb.2
  obtain⟨u1,u2,rfl,hu1,hu2⟩:=BQ ha
  have hu2:=@kX b0 _ _ _ hsep _ hu2
  subst hu2
  obtain⟨cc,rfl,hl,_,hn,_⟩:=zW hu1
  obtain⟨us,k1,k2,k3⟩:=Pj hi hcs
  obtain rfl:=Ws b0 hss k1
  have hlen:ss.length=n:=by simpa using k2
  have hmx:(qB (bW b0.sig sep) (ss.map (bW b0.sig))).length<=m:=by rw[<-wL];exact V6 hm
  have hres:∀r',VV r' (V.s (S.wY (Dq sep ss))) (.string ⟨(Lib.join (ss.map (bW b0.sig)) (bW b0.sig sep)).toArray⟩):=λr'=>by
   have:=a7r b0 (r:=r') (Dq sep ss)
   rw[wL,JE]at this
   exact this
  rw[JE]at hmx
  rcases agN n with h0|h0
  ·subst h0
   have:ss=[]:=afA hlen
   subst this
   refine(Tryz.strings_Join_none _ _ _ w).mono λe w' ⟨e1,e2⟩=>⟨_,e1,Post.below hi (by rw[e2];exact ahE _ _) (hres r)⟩
  ·have hcell:∀(j:Nat) x,(ss.map λl=>(⟨(bW b0.sig l).toArray⟩:ByteArray))[j]? =some x->w.cell? ⟨r.blk l,r.off l+o+j,none⟩=some (.string x):=λj x hx=>by
    simp only[aeT,afV]at hx
    obtain⟨s,hs,rfl⟩:=hx
    have:=k3 j (.string ⟨(bW b0.sig s).toArray⟩) (by simp[hs])
    rw[<-this]
    simp[Ren.at,afZ]
   have hblk:r.blk l<w.heap.size:=by
    obtain⟨s,hs⟩:∃s,ss[0]? =some s:=⟨ss[0],by rw[aeK]⟩
    have:=hcell 0 _ (by rw[aeT,hs];rfl)
    unfold World.cell? at this
    by_cases hlt:r.blk l<w.heap.size
    ·exact hlt
    ·rw[agR (ag2 hlt)]at this
     cases this
   have hmap:((ss.map λl=>(⟨(bW b0.sig l).toArray⟩:ByteArray)).map λx=>x.data.toList)=ss.map (bW b0.sig):=by simp[agp,Function.comp_def]
   have hj:=Tryz.strings_Join (r.blk l) (r.off l+o) cc (ss.map λl=>⟨(bW b0.sig l).toArray⟩) ⟨(bW b0.sig sep).toArray⟩ w hcell hblk (by simp;omega) (by simp;omega) (by rw[hmap];show(Lib.join _ (bW b0.sig sep).toArray.toList).length<=_;simp;omega)
   rw[hmap]at hj
   simp only[af4,hlen]at hj
   refine Calls.mono hj λe w' ⟨e1,e2⟩=>⟨_,e1,Post.below hi e2 ?_⟩
   have:=hres r
   simpa using this
 ·obtain⟨u1,u2,rfl,hu1,hu2⟩:=BQ ha
  rename_i sep
  obtain⟨sp,hsep,e⟩:=aj e
  cases hu1;cases e
  have hu2:=@kX b0 _ _ _ hsep _ hu2
  subst hu2
  exact(Tryz.strings_Join_none _ _ _ w).mono λe w' ⟨e1,e2⟩=>⟨_,e1,Post.below hi (by rw[e2];exact ahE _ _) rfl⟩
 ·cases e
def a2S:List Nat:=[103,111,116,111,32,98]
def Nq:List Nat:=[98,114,97,110,99,104,32]
def bN:List Nat:=[32,98]
def XE:List Nat:=[114,101,116,117,114,110]
def a1B:List Nat:=[97,98,111,114,116]
def fN:List Nat:=[32,58,61,32,102]
def a4n:List Nat:=[40]
def U1:List Nat:=[44,32]
def Vf:List Nat:=[41,32,98]
def a7a (c n:Nat):List Nat:=match c with
 |1=>a2S++[256+15]
 |2=>Nq++([256+13]++(bN++([256+15]++(bN++[256+16]))))
 |3=>XE
 |4=>[256+14]++(fN++([256+17]++(a4n++(Dq U1 ((aib n).map λi=>[256+(18+i)])++(Vf++[256+15])))))
 |_=>a1B
def LT (c n:Nat):Lf:=bif Nat.beq c 4 then xk (xk (Lf.xO [(true,kJ)] (List.replicate (5+n) (0,30)) []) 0 4) 9 n else xk (Lf.xO [(true,kJ)] (List.replicate (5+n) (0,30)) []) 0 c
def elT (n i:Nat):List S:=dD (18+n+5*i) opK
def tbT (n:Nat):Tabs:=⟨[(0,9)],(aib n).map λ(i:Nat)=>((0:Nat),N.c (i:Int),elT n i),[]⟩
def cjT (c n:Nat):List S:=vT.map (LT c n).nS
def a0B (c n:Nat):List aU:=
 [nJ 80 [.g (cjT c n)] (m8 true),nJ 85 [.g (cjT c n)] (mB true)]++
 [(7,15),(8,16),(6,17)].flatMap λ(p:Nat×Nat)=>[nJ 68 [.s (.xi .i64 p.1)] (mS1 (.xs [256+p.2]))]
def a4r (c n:Nat):List aU:=[nJ 121 [.g (clL (LT c n) 1 opK)] (mS2 (.xs [256+13]))]
def a3n (c n:Nat):List aU:=[nJ 23 [.g (clL (LT c n) 10 kPl)] (mS2 (.xs [256+14]))]
def aah (n:Nat):List aU:=(aib n).flatMap λ(i:Nat)=>[nJ 121 [.g (elT n i)] (mS2 (.xs [256+(18+i)]))]
def Y1 (c n:Nat):List aU:=a0B c n++(bif Nat.beq c 2 then a4r c n else bif Nat.beq c 4 then a3n c n++(aah n++[TL ((LT c n).know (AU 13 (5+n)))])else[])
def a9c (F:FuncId)(c n:Nat):R:=@qR ((LT c n).know (AU 13 (5+n))) (oq Tryz.prog) (pJ Tryz.prog) (FB (Y1 c n)) (tbT n) (λ_ _ _ _=>none) 30 15 F (([.g vT]:List A).map (LT c n).nA) ⟨[],0⟩ 0
def Oc (F:FuncId)(c n:Nat):Bool:=wZ (mS2 (S.wY (a7a c n))) (a9c F c n)
theorem TB:([1,2,3,5].all λc=>Oc 103 c 0)=true:=by kernel_rfl
theorem QB:((aib 9).all λn=>Oc 103 4 n)=true:=by kernel_rfl
