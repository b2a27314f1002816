/- Whether a function is well made: fnshape.made. -/
import Derived.Test.YtnhnelgkcldkbaaGreatDoorFn4
set_option linter.all false
set_option maxRecDepth 100000
namespace Go.Proofs.YtnhnelgkcldkbaaGreatDoor
namespace made
open Go.RowKit Am
theorem Dc:fU (F.body.getD .skip) 1 8=true:=by kernel_rfl
theorem Iy {α:Type}(l:List α)(d:α)(p:α->Bool){k:Nat}(hk:k<l.length):(l.take (k+1)).all p=((l.take k).all p&&p (l.getD k d)):=by
 rw[afN hk,agi,af8,aeK hk]
 simp
theorem mg (b:Bool):b2i b=1↔b=true:=by cases b<;>decide
theorem eG (b:Bool):decide (b2i b=1)=b:=by cases b<;>rfl
theorem X4 (l:List Bool):au InI (List.replicate l.length ivB) (l.map b2i):=by
 induction l with
 |nil=>trivial
 |cons b l ih=>exact⟨sG b,ih⟩
theorem RV {b1 b2:Base}{i j:Nat}(e:b1.rho i=b2.rho j):iQ b1 b2 (isU (.xe [(j,1)]) (.xe [(i,1)])):=by
 intro r v hv
 have hv:v=.bool (decide (b1.rho i=1)||false):=hv
 show v=.bool (decide (b2.rho j=1)||false)
 rw[hv,e]
def MH (nL nB:Int)(b:bU):Bool:=
 (!decide (ah b.pre 0=2)||(decide (ah b.pre 1=1)||decide (ah b.pre 3<nL)))&&((!decide (ah b.pre 0=4)||(decide (ah b.post 0<nL)&&b.ops.all (tK nL)))&&
 ((decide (ah b.pre 0=3)||decide (ah b.pre 0=5)||decide (ah b.pre 7<nB))&&(!decide (ah b.pre 0=2)||(decide (ah b.pre 7=ah b.pre 8)||decide (ah b.pre 8<nB)))))
def NC (nL nB:Int)(b:bU):Bool:=b.st.all (oV nL)&&MH nL nB b
def okB (b:bU):Bool:=b.st.all (λst=>dK.val st)&&xJ b
def kT (D:FnD):Bool:=head.ny D&&(decide (0<D.bs.length)&&(D.bs.all okB&&D.bs.all (NC D.ls.length D.bs.length)))
theorem a0z (a s e2 e4 e3 e5 a1 al d o t72 t73 t74:Bool)(h24:e2=true->e4=false)(x:Bool)(hx:x=((a&&s)&&d&&o)):
  ((!e2||((a&&s)&&(a1||al)))&&((!e4||x)&&((!(!e2&&!e4)||(a&&s))&&((!(!(e3||e5))||t72)&&(!e2||(t74||t73))))))=(a&&(s&&((!e2||(a1||al))&&((!e4||(d&&o))&&((e3||e5||t72)&&(!e2||(t74||t73))))))):=by
 subst hx
 cases e2
 ·cases e4<;>cases a<;>cases s<;>cases d<;>cases o<;>cases e3<;>cases e5<;>cases t72<;>rfl
 ·rw[h24 rfl]
  cases a<;>cases s<;>cases a1<;>cases al<;>cases e3<;>cases e5<;>cases t72<;>cases t74<;>cases t73<;>rfl
section
variable {w:World} {v:Value} {D:FnD} (h:aZ w v D)
include h
theorem start {q:At}(hq:Fits D q)(l:List Bool)(i:q.i<D.bs.length):((Lf.of (eH++List.replicate l.length ivB)).pin 6 1).Holds (aA (aH D q (l.map b2i))) (λ_=>[]):=by
 have:=lC h hq (X4 l) (m2:=[]) (λ_=>[])
 rw[aft]at this
 exact this.pin (i:=6) (c:=1) (show b2i (decide ((q.i:Int)<D.bs.length))=1 from(dh _).2 (by omega))
def BN (D:FnD)(i k:Nat):Bool:=((D.blk i).st.take k).all (oV D.ls.length)
theorem a7R {q:At}(r:Bool):Fe.num (aA (aH D q [b2i r]))=(r&&oV D.ls.length (D.stm q.i q.k)):=by
 show((decide (aA (aH D q [b2i r]) 77=1)&&true)&&(QZ.ren toS).num (aA (aH D q [b2i r])))=_
 rw[a1p,show aA (aH D q [b2i r]) 77=b2i r from eu 0,eG,afg]
def atS (i k:Nat):At:=⟨i,k,0,0⟩
def mkS (D:FnD)(r:Bool)(i k:Nat):List Int:=[b2i (r&&BN D i k)]
theorem inner (r:Bool){q:At}{m:List Int}(hm:aA m 0=b2i r)(hi:q.i<D.bs.length)(hB:D.bs.length<=1000)(hS:(D.blk q.i).st.length<=1000):
  (((D.blk q.i).st.all λst=>dK.val st)=true->aA m 1=b2i (r&&(D.blk q.i).st.all (oV D.ls.length))->∀K (ok:aC K (fnB w D q m).rho (fnB w D q m).sig),@aO ((fnB w D q m).aF K ok) Tryz.prog (pY (.exit 2) sNI K) bD)/\
  (((D.blk q.i).st.all λst=>dK.val st)=false->∀K (ok:aC K (fnB w D q m).rho (fnB w D q m).sig),@aO ((fnB w D q m).aF K ok) Tryz.prog (pY .ret sRI K) bD):=by
 have fit:∀k,k<=(D.blk q.i).st.length->Fits D (atS q.i k):=λk hk=>iL ⟨by show q.i<=1000;omega,by show k<=1000;omega,afb _,afb _⟩
 have st:=λk hk=>start h (fit k hk) [r&&BN D q.i k] hi
 have us:∀u∈usI,iQ (fnB w D q m) (fnB w D (atS q.i 0) (mkS D r q.i 0)) u:=λu hu=>by
  simp only[usI,aeQ,aeZ,afj]at hu
  rcases hu with rfl|rfl
  ·exact dM λr v hv=>hv
  ·refine RV ?_
   show aA (aH D q m) (77+0)=aA (aH D (atS q.i 0) (mkS D r q.i 0)) (77+0)
   rw[eu,eu,hm]
   show b2i r=b2i (r&&BN D q.i 0)
   unfold BN
   simp
 have rig:∀k,k<(D.blk q.i).st.length->∀b,dK.val (D.stm q.i k)=b->jJ Tryz.prog (dG (Ee b) tbI bg) (fnB w D (atS q.i k) (mkS D r q.i k)):=λk hk b hb=>
  fV (Xd h ⟨_,Tryz.func75,by kernel_rfl,by kernel_rfl⟩ KY vm8 (q:=atS q.i k) hi hk hb _) (@aX (fnB w D (atS q.i k) (mkS D r q.i k)) _ _ (aS h _ _) (@aX (fnB w D (atS q.i k) (mkS D r q.i k)) _ _ (dN h (q:=atS q.i k) hi _) (Ci h (q:=atS q.i k) hi hk _))) pR
 have pin1:∀k,k<(D.blk q.i).st.length->L1.Holds (aA (aH D (atS q.i k) (mkS D r q.i k))) (λ_=>[]):=λk hk=>(st k (by omega)).pin (i:=23) (c:=1) (show b2i (decide ((k:Int)<(D.blk q.i).st.length))=1 from(dh _).2 (by omega))
 have step:∀k,k<(D.blk q.i).st.length->dK.val (D.stm q.i k)=true->gY Tryz.prog (fnB w D (atS q.i k) (mkS D r q.i k)) (fnB w D (atS q.i (k+1)) (mkS D r q.i (k+1))) bD hdI .normal hdI:=λk hk hok=>by
  refine bI lq (rig k hk true hok) (bY (atS q.i k) (atS q.i (k+1)) rfl _ _) (pin1 k hk) (aK D _ _) (λp hp=>?_) (λu hu=>?_) rfl (bF f bD)
  ·obtain rfl:=aeR.1 hp
   exact(FW _ _).trans hok
  ·have key:(fnB w D (atS q.i (k+1)) (mkS D r q.i (k+1))).rho 77=1↔Fe.num (fnB w D (atS q.i k) (mkS D r q.i k)).rho=true:=by
    show aA (aH D (atS q.i (k+1)) (mkS D r q.i (k+1))) (77+0)=1↔Fe.num (aA (aH D (atS q.i k) (mkS D r q.i k)))=true
    rw[eu,show E.num (aA (aH D (atS q.i k) (mkS D r q.i k))) Fe=_ from a7R h (q:=atS q.i k) (r&&BN D q.i k)]
    show b2i (r&&BN D q.i (k+1))=1↔_
    rw[mg]
    unfold BN
    rw[Iy _ [] _ hk,<-ahm]
    exact Iff.rfl
   simp only[aeQ,aeZ,afj]at hu
   rcases hu with rfl|rfl|rfl
   ·exact dM λr v hv=>hv
   ·exact CG key
   ·exact D8 key
 constructor
 ·intro hall hm1 K ok
  have hall:=(iW (D.blk q.i).st [] λst=>dK.val st).2 hall
  refine @dn _ _ (λk=>fnB w D (atS q.i k) (mkS D r q.i k)) bD _ _ hdI _ _ (λe=>by cases e) (D.blk q.i).st.length (bY q (atS q.i 0) rfl _ _) us (λk hk=>step k hk (hall k hk)) ?_ 8 K ok
  refine bI JB (bC (@aX (fnB w D (atS q.i _) (mkS D r q.i _)) _ _ (aS h _ _) (dN h (q:=atS q.i _) hi _))) (bY (atS q.i (D.blk q.i).st.length) q rfl _ _) (L:=L3) ?_ (aK D _ _) (λp hp=>by cases hp) (λu hu=>?_) rfl (bF f bD)
  ·exact(st _ (aeM _)).pin (i:=23) (c:=0) (show b2i (decide (((D.blk q.i).st.length:Int)<(D.blk q.i).st.length))=0 by rw[af2 (by omega)];rfl)
  ·obtain rfl:=aeR.1 hu
   refine RV ?_
   show aA (aH D (atS q.i (D.blk q.i).st.length) (mkS D r q.i (D.blk q.i).st.length)) (77+0)=aA (aH D q m) (77+1)
   rw[eu,eu,hm1]
   show b2i (r&&BN D q.i (D.blk q.i).st.length)=_
   unfold BN
   rw[afq]
 ·intro hbad K ok
  rcases jU (λk=>dK.val (D.stm q.i k)) (D.blk q.i).st.length with hall|⟨N,hN,h0,hn⟩
  ·rw[(iW (D.blk q.i).st [] λst=>dK.val st).1 hall]at hbad
   cases hbad
  ·refine @dn _ _ (λk=>fnB w D (atS q.i k) (mkS D r q.i k)) bD _ _ hdI _ _ (λe=>by cases e) N (bY q (atS q.i 0) rfl _ _) us (λk hk=>step k (by omega) (h0 k hk)) ?_ 8 K ok
   exact bI aez (rig N hN false hn) (bY (atS q.i N) q rfl _ _) (pin1 N hN) (aK D _ _) (λp hp=>by cases hp) (λu hu=>by cases hu) rfl (bF f bD)
def atM (i m:Nat):At:=⟨i,0,m,0⟩
def BR (D:FnD)(r:Bool)(i:Nat):Bool:=r&&decide (ah (D.blk i).post 0<D.ls.length)
def Zc (D:FnD)(i m:Nat):Bool:=((D.blk i).ops.take m).all (tK D.ls.length)
def mkM (D:FnD)(r:Bool)(i m:Nat):List Int:=[b2i (BR D r i&&Zc D i m)]
theorem args (r:Bool){q:At}{m:List Int}(h78:aA m 1=b2i r)(h79:aA m 2=b2i ((r&&decide (ah (D.blk q.i).post 0<D.ls.length))&&(D.blk q.i).ops.all (tK D.ls.length)))(hi:q.i<D.bs.length)(hB:D.bs.length<=1000)(hA:(D.blk q.i).ops.length<=1000):
  ∀K (ok:aC K (fnB w D q m).rho (fnB w D q m).sig),@aO ((fnB w D q m).aF K ok) Tryz.prog (rowA K) iR:=by
 intro K ok
 have fit:∀k,k<=(D.blk q.i).ops.length->Fits D (atM q.i k):=λk hk=>iL ⟨by show q.i<=1000;omega,afb _,by show k<=1000;omega,afb _⟩
 have st:=λk hk=>start h (fit k hk) [BR D r q.i&&Zc D q.i k] hi
 have r78:(fnB w D q m).rho 78=b2i r:=(eu (D:=D) (q:=q) (more:=m) 1).trans h78
 have r70:(fnB w D q m).rho 70=b2i (decide (ah (D.blk q.i).post 0<D.ls.length)):=rfl
 have r0:(fnB w D (atM q.i 0) (mkM D r q.i 0)).rho 77=b2i (BR D r q.i):=by
  refine(eu (D:=D) (q:=atM q.i 0) (more:=mkM D r q.i 0) 0).trans ?_
  show b2i (BR D r q.i&&Zc D q.i 0)=b2i (BR D r q.i)
  simp[Zc]
 have us:∀u∈usA,iQ (fnB w D q m) (fnB w D (atM q.i 0) (mkM D r q.i 0)) u:=λu hu=>by
  simp only[usA,aeQ,aeZ,afj]at hu
  rcases hu with rfl|rfl|rfl
  ·exact dM λr v hv=>hv
  ·intro r' v hv
   have hv:@VS (fnB w D q m) r' (bif (decide ((fnB w D q m).rho 78=1)&&true)then .xe [(70,1)]else .bool false) v:=hv
   rw[r78,eG,afg]at hv
   show v=.bool (decide ((fnB w D (atM q.i 0) (mkM D r q.i 0)).rho 77=1)||false)
   rw[r0,eG,afL]
   cases r with
   |false=>exact hv
   |true=>
    have hv:v=.bool (decide ((fnB w D q m).rho 70=1)||false):=hv
    rw[hv,r70,eG,afL]
    rfl
  ·refine CG ?_
   show(fnB w D (atM q.i 0) (mkM D r q.i 0)).rho 77=1↔((decide ((fnB w D q m).rho 78=1)&&true)&&(decide ((fnB w D q m).rho 70=1)&&true))=true
   rw[r0,r78,r70,eG,eG,mg,afg,afg]
   exact Iff.rfl
 refine @dn _ _ (λk=>fnB w D (atM q.i k) (mkM D r q.i k)) iR _ _ hdA _ _ (λe=>by cases e) (D.blk q.i).ops.length (bY q (atM q.i 0) rfl _ _) us (λk hk=>?_) ?_ 2 K ok
 ·refine bI CJ (bC (@aX (fnB w D (atM q.i k) (mkM D r q.i k)) _ _ (aS h _ _) (@aX (fnB w D (atM q.i k) (mkM D r q.i k)) _ _ (dN h (q:=atM q.i k) hi _) (Gj h (q:=atM q.i k) hi hk _)))) (bY (atM q.i k) (atM q.i (k+1)) rfl _ _) (L:=L5) ?_ (aK D _ _) (λp hp=>by cases hp) (λu hu=>?_) rfl (bF fO iR)
  ·exact(st k (by omega)).pin (i:=52) (c:=1) (show b2i (decide ((k:Int)<(D.blk q.i).ops.length))=1 from(dh _).2 (by omega))
  ·have key:(fnB w D (atM q.i (k+1)) (mkM D r q.i (k+1))).rho 77=1↔a3X.num (fnB w D (atM q.i k) (mkM D r q.i k)).rho=true:=by
    have e1:(fnB w D (atM q.i (k+1)) (mkM D r q.i (k+1))).rho 77=b2i (BR D r q.i&&Zc D q.i (k+1)):=eu (D:=D) (q:=atM q.i (k+1)) (more:=mkM D r q.i (k+1)) 0
    have e2:(fnB w D (atM q.i k) (mkM D r q.i k)).rho 77=b2i (BR D r q.i&&Zc D q.i k):=eu (D:=D) (q:=atM q.i k) (more:=mkM D r q.i k) 0
    have e3:(fnB w D (atM q.i k) (mkM D r q.i k)).rho 71=b2i (decide (ah (D.opd q.i k) 2<D.ls.length)):=rfl
    have e4:(fnB w D (atM q.i k) (mkM D r q.i k)).rho 53=ah (D.opd q.i k) 0:=rfl
    show(fnB w D (atM q.i (k+1)) (mkM D r q.i (k+1))).rho 77=1↔((decide ((fnB w D (atM q.i k) (mkM D r q.i k)).rho 77=1)&&true)&&((decide ((fnB w D (atM q.i k) (mkM D r q.i k)).rho 53=1)&&true)||(decide ((fnB w D (atM q.i k) (mkM D r q.i k)).rho 71=1)&&true)))=true
    rw[e1,e2,e3,e4,mg,eG,eG,afg,afg,afg]
    show(BR D r q.i&&((D.blk q.i).ops.take (k+1)).all (tK D.ls.length))=true↔_
    rw[Iy _ [] _ hk,<-ahm]
    exact Iff.rfl
   simp only[aeQ,aeZ,afj]at hu
   rcases hu with rfl|rfl|rfl
   ·exact dM λr v hv=>hv
   ·exact CG key
   ·exact D8 key
 ·refine bI JK (bC (@aX (fnB w D (atM q.i _) (mkM D r q.i _)) _ _ (aS h _ _) (dN h (q:=atM q.i _) hi _))) (bY (atM q.i (D.blk q.i).ops.length) q rfl _ _) (L:=L6) ?_ (aK D _ _) (λp hp=>by cases hp) (λu hu=>?_) rfl (bF fO iR)
  ·exact(st _ (aeM _)).pin (i:=52) (c:=0) (show b2i (decide (((D.blk q.i).ops.length:Int)<(D.blk q.i).ops.length))=0 by rw[af2 (by omega)];rfl)
  ·obtain rfl:=aeR.1 hu
   refine RV ?_
   show aA (aH D (atM q.i (D.blk q.i).ops.length) (mkM D r q.i (D.blk q.i).ops.length)) (77+0)=aA (aH D q m) (77+2)
   rw[eu,eu,h79]
   show b2i (BR D r q.i&&((D.blk q.i).ops.take (D.blk q.i).ops.length).all (tK D.ls.length))=_
   rw[afq]
   rfl
def zh (D:FnD)(i:Nat):Bool:=(D.bs.take i).all (NC D.ls.length D.bs.length)
def xG (D:FnD)(r:Bool)(i:Nat):List Bool:=
 let a:=r&&zh D i
 let b:=a&&(D.blk i).st.all (oV D.ls.length)
 [a,b,(b&&decide (ah (D.blk i).post 0<D.ls.length))&&(D.blk i).ops.all (tK D.ls.length)]
theorem a5H (r:Bool)(i:Nat)(hi:i<D.bs.length):U9.num (aA (aH D (atB i) ((xG D r i).map b2i)))=(r&&zh D (i+1)):=by
 have e78:aA (aH D (atB i) ((xG D r i).map b2i)) 78=b2i ((r&&zh D i)&&(D.blk i).st.all (oV D.ls.length)):=eu (D:=D) (q:=atB i) 1
 have e79:aA (aH D (atB i) ((xG D r i).map b2i)) 79=b2i ((((r&&zh D i)&&(D.blk i).st.all (oV D.ls.length))&&decide (ah (D.blk i).post 0<D.ls.length))&&(D.blk i).ops.all (tK D.ls.length)):=eu (D:=D) (q:=atB i) 2
 have e8:aA (aH D (atB i) ((xG D r i).map b2i)) 8=ah (D.blk i).pre 0:=rfl
 have e9:aA (aH D (atB i) ((xG D r i).map b2i)) 9=ah (D.blk i).pre 1:=rfl
 have e69:aA (aH D (atB i) ((xG D r i).map b2i)) 69=b2i (decide (ah (D.blk i).pre 3<D.ls.length)):=rfl
 have e72:aA (aH D (atB i) ((xG D r i).map b2i)) 72=b2i (decide (ah (D.blk i).pre 7<D.bs.length)):=rfl
 have e73:aA (aH D (atB i) ((xG D r i).map b2i)) 73=b2i (decide (ah (D.blk i).pre 8<D.bs.length)):=rfl
 have e74:aA (aH D (atB i) ((xG D r i).map b2i)) 74=b2i (decide (ah (D.blk i).pre 7=ah (D.blk i).pre 8)):=rfl
 unfold zh
 rw[Iy _ b0 _ hi,<-ahm]
 show _=((r&&zh D i)&&((D.blk i).st.all (oV D.ls.length)&&MH D.ls.length D.bs.length (D.blk i)))
 unfold MH
 simp only[U9,ands,imp,isE,E.num,afz,agV,afg,e78,e79,e8,e9,e69,e72,e73,e74,eG]
 exact a0z _ _ _ _ _ _ _ _ _ _ _ _ _ (λe=>by have:=agu e;exact af2 (by omega)) _ rfl
def mkO (D:FnD)(r:Bool)(i:Nat):List Int:=(xG D r i).map b2i
theorem outer (r:Bool){m:List Int}(h77:∀b0:Base,True)(hB:D.bs.length<=1000)(hS:∀b∈D.bs,b.st.length<=1000/\(xJ b=true->b.ops.length<=1000)):
  (D.bs.all okB=true->aA m 1=b2i (r&&D.bs.all (NC D.ls.length D.bs.length))->∀K (ok:aC K (fnB w D (atB 0) m).rho (fnB w D (atB 0) m).sig),@aO ((fnB w D (atB 0) m).aF K ok) Tryz.prog (zo r (.exit 0) sNO K) gJ)/\
  (D.bs.all okB=false->∀K (ok:aC K (fnB w D (atB 0) m).rho (fnB w D (atB 0) m).sig),@aO ((fnB w D (atB 0) m).aF K ok) Tryz.prog (zo r .ret sRO K) gJ):=by
 have mem:∀i,i<D.bs.length->D.blk i∈D.bs:=λi hi=>by
  unfold FnD.blk
  rw[af8,aeK hi]
  exact agl hi
 have L7h:∀i,i<D.bs.length->L7.Holds (aA (aH D (atB i) (mkO D r i))) (λ_=>[]):=λi hi=>start h (fD (by omega)) (xG D r i) hi
 have us:∀u∈[isU (.xi .i64 4) (.int .i64 0),isU R (.bool r)],iQ (fnB w D (atB 0) m) (fnB w D (atB 0) (mkO D r 0)) u:=λu hu=>by
  simp only[aeQ,aeZ,afj]at hu
  rcases hu with rfl|rfl
  ·exact dM λr v hv=>hv
  ·intro r' v hv
   have hv:v=.bool r:=hv
   have e:(fnB w D (atB 0) (mkO D r 0)).rho 77=b2i r:=by
    refine(eu (D:=D) (q:=atB 0) (more:=mkO D r 0) 0).trans ?_
    show b2i (r&&zh D 0)=b2i r
    simp[zh]
   show v=.bool (decide ((fnB w D (atB 0) (mkO D r 0)).rho 77=1)||false)
   rw[e,eG,hv,afL]
 have tb:∀i,i<D.bs.length->@bQ (fnB w D (atB i) (mkO D r i)) tbO:=λi hi=>@aX (fnB w D (atB i) (mkO D r i)) _ _ (aS h _ _) (dN h (q:=atB i) hi _)
 have x0:∀i,aA (mkO D r i) 0=b2i (r&&zh D i):=λi=>rfl
 have x1:∀i,aA (mkO D r i) 1=b2i ((r&&zh D i)&&(D.blk i).st.all (oV D.ls.length)):=λi=>rfl
 have x2:∀i,aA (mkO D r i) 2=b2i ((((r&&zh D i)&&(D.blk i).st.all (oV D.ls.length))&&decide (ah (D.blk i).post 0<D.ls.length))&&(D.blk i).ops.all (tK D.ls.length)):=λi=>rfl
 have inn:=λi (hi:i<D.bs.length)=>inner h (r&&zh D i) (q:=atB i) (m:=mkO D r i) (x0 i) hi hB (hS _ (mem i hi)).1
 have hfO:fO≠f:=by decide
 -- rows of a round: statements well, arguments
 have rowsOk:∀i,i<D.bs.length->((D.blk i).st.all λst=>dK.val st)=true->(xJ (D.blk i)=true\/True)->∀b,xJ (D.blk i)=b->(b=true->(D.blk i).ops.length<=1000)->b=true->
   jJ Tryz.prog (dG (aar b) tbO XU) (fnB w D (atB i) (mkO D r i)):=λi hi hs _ b hb hl hbt=>by
  refine fV (OY h ⟨_,Tryz.func80,by kernel_rfl,by kernel_rfl⟩ BO vm8 (q:=atB i) hi hb _) (tb i hi) (rows_ok λK ok p hp=>?_)
  simp only[aeQ,aeZ,afj]at hp
  rcases hp with rfl|rfl
  ·exact⟨F,Tryz.func105,λc hc=>iH Dc ((inn i hi).1 hs (x1 i) K ok) hc⟩
  ·exact⟨FO,Tryz.func199,λc hc=>iH OU (args h ((r&&zh D i)&&(D.blk i).st.all (oV D.ls.length)) (q:=atB i) (m:=mkO D r i) (x1 i) (x2 i) hi hB (hl hbt) K ok) hc⟩
 have step:∀i,i<D.bs.length->okB (D.blk i)=true->gY Tryz.prog (fnB w D (atB i) (mkO D r i)) (fnB w D (atB (i+1)) (mkO D r (i+1))) gJ hdO .normal hdO:=λi hi hok=>by
  unfold okB at hok
  rw[aeI]at hok
  have hl:=(hS _ (mem i hi)).2
  refine bI IZ (rowsOk i hi hok.1 (.inr trivial) true hok.2 (λ_=>hl hok.2) rfl) (bJ _ _ _ _) (L7h i hi) (aK D _ _) (λp hp=>by cases hp) (λu hu=>?_) rfl (λK ok=>qQ (F:=F) (cc:=gJ) λp hp e=>?_)
  ·have key:(fnB w D (atB (i+1)) (mkO D r (i+1))).rho 77=1↔U9.num (fnB w D (atB i) (mkO D r i)).rho=true:=by
    have e1:(fnB w D (atB (i+1)) (mkO D r (i+1))).rho 77=b2i (r&&zh D (i+1)):=eu (D:=D) (q:=atB (i+1)) (more:=mkO D r (i+1)) 0
    rw[e1,show U9.num (fnB w D (atB i) (mkO D r i)).rho=_ from a5H h r i hi,mg]
   simp only[aeQ,aeZ,afj]at hu
   rcases hu with rfl|rfl|rfl|rfl
   ·exact dM λr v hv=>hv
   ·exact CG key
   ·exact D8 key
   ·exact D8 key
  ·simp only[aeQ,aeZ,afj]at hp
   rcases hp with rfl|rfl
   ·exact rD Nv ((inn i hi).1 hok.1 (x1 i) K ok)
   ·exact absurd e hfO
 constructor
 ·intro hall hm K ok
  have hall:=(iW D.bs b0 okB).2 hall
  refine @dn _ _ (λi=>fnB w D (atB i) (mkO D r i)) gJ _ _ hdO _ _ (λe=>by cases e) D.bs.length (bJ _ _ _ _) us (λk hk=>step k hk (hall k hk)) ?_ 5 K ok
  refine bI Jq (bC (aS h _ _)) (bJ _ _ _ _) (L:=L8) ?_ (aK D _ _) (λp hp=>by cases hp) (λu hu=>?_) rfl (bF f gJ)
  ·have:=lC h (q:=atB D.bs.length) (fD (by omega)) (X4 [r&&zh D D.bs.length]) (m2:=[aA (mkO D r D.bs.length) 1,aA (mkO D r D.bs.length) 2]) (λ_=>[])
   exact this.pin (i:=6) (c:=0) (show b2i (decide ((D.bs.length:Int)<D.bs.length))=0 by rw[af2 (by omega)];rfl)
  ·obtain rfl:=aeR.1 hu
   refine RV ?_
   show aA (aH D (atB D.bs.length) (mkO D r D.bs.length)) (77+0)=aA (aH D (atB 0) m) (77+1)
   rw[eu,eu,hm,x0]
   unfold zh
   rw[afq]
 ·intro hbad K ok
  rcases jU (λi=>okB (D.blk i)) D.bs.length with hall|⟨N,hN,h0,hn⟩
  ·rw[(iW D.bs b0 okB).1 hall]at hbad
   cases hbad
  ·refine @dn _ _ (λi=>fnB w D (atB i) (mkO D r i)) gJ _ _ hdO _ _ (λe=>by cases e) N (bJ _ _ _ _) us (λk hk=>step k (by omega) (h0 k hk)) ?_ 5 K ok
   have hn:okB (D.blk N)=false:=hn
   unfold okB at hn
   cases hs:((D.blk N).st.all λst=>dK.val st)with
   |false=>
    refine bI acG (fV jA (tb N hN) (rows_ok (T:=λK=>[(f,pY .ret sRI K)]) λK ok p hp=>?_)) (bJ _ _ _ _) (L7h N hN) (aK D _ _) (λp hp=>by cases hp) (λu hu=>by cases hu) rfl (λK ok=>qQ (F:=F) (cc:=gJ) λp hp e=>?_)
    ·obtain rfl:=aeR.1 hp
     exact⟨F,Tryz.func105,λc hc=>iH Dc ((inn N hN).2 hs K ok) hc⟩
    ·obtain rfl:=aeR.1 hp
     exact rD Nv ((inn N hN).2 hs K ok)
   |true=>
    rw[hs,afY]at hn
    refine bI abG (fV (OY h ⟨_,Tryz.func80,by kernel_rfl,by kernel_rfl⟩ BO vm8 (q:=atB N) hN hn _) (tb N hN) (rows_ok (T:=λK=>[(f,pY (.exit 2) sNI K)]) λK ok p hp=>?_)) (bJ _ _ _ _) (L7h N hN) (aK D _ _) (λp hp=>by cases hp) (λu hu=>by cases hu) rfl (λK ok=>qQ (F:=F) (cc:=gJ) λp hp e=>?_)
    ·obtain rfl:=aeR.1 hp
     exact⟨F,Tryz.func105,λc hc=>iH Dc ((inn N hN).1 hs (x1 N) K ok) hc⟩
    ·obtain rfl:=aeR.1 hp
     exact rD Nv ((inn N hN).1 hs (x1 N) K ok)
