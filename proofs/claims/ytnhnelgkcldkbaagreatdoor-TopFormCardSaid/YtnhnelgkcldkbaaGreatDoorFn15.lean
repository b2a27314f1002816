/- What fnshape.twos and fnshape.Check answer. -/
import Derived.Test.YtnhnelgkcldkbaaGreatDoorFn12
set_option linter.all false
set_option maxRecDepth 100000
open List renaming replicate → aia, range → aib
namespace Go.Proofs.YtnhnelgkcldkbaaGreatDoor
namespace twos
open Go.RowKit Am
theorem pq {p:Int×Int}{f:Nat->Int}(h:∀j,InI p (f j)):au InI (aia 16 p) (nK f):=
 ⟨h 0,h 1,h 2,h 3,h 4,h 5,h 6,h 7,h 8,h 9,h 10,h 11,h 12,h 13,h 14,h 15,trivial⟩
theorem jc (b:Base)(d:Bd):Agree b b d:=⟨rfl,rfl,λ_ _=>rfl,λ_ _=>rfl,λ_ _=>rfl⟩
section
variable {w:World} {v:Value} {D:FnD} (h:aZ w v D)
include h
theorem a8W (hs:Sm D):(Ct.fn D).In 24000:=by
 have e:Ct.at D D.bs.length=Ct.fn D:=by unfold Ct.at Ct.fn;rw[afq]
 rw[<-e]
 exact In.more (In.at hs (aeM _)) (by have:=hs.b;omega)
theorem sZ (hs:Sm D):LT.Holds (aA (aH D (atB 0) (mF D))) (λ_=>[]):=by
 have hc:=a8W h hs
 have:au InI (aia 48 Fv++aia 16 ivB) (mF D):=
  gq (a:=aia 16 Fv) (pq λj=>by have:=hc.a j;show(-9223372036854775808:Int)<=_/\_<=(9223372036854775807:Int);omega)
   (gq (a:=aia 16 Fv) (pq λj=>by have:=hc.p j;show(-9223372036854775808:Int)<=_/\_<=(9223372036854775807:Int);omega)
    (gq (a:=aia 16 Fv) (pq λj=>by have:=hc.s j;show(-9223372036854775808:Int)<=_/\_<=(9223372036854775807:Int);omega)
     (gq (a:=aia 16 ivB) (c:=[]) (pq λj=>sG _) trivial)))
 have:=lC h (q:=atB 0) (fD (by omega)) this (m2:=[]) (λ_=>[])
 rwa[aft]at this
theorem QC {b:Nat}{G:Nat->Int}(e:[(Ct.fn D).a,(Ct.fn D).p,(Ct.fn D).s,λj=>b2i ((Ct.fn D).i j)][b]? =some G){j:Nat}(hj:j<16):aA (aH D (atB 0) (mF D)) (nm b j)=G j:=by
 have:=gG (D:=D) (q:=atB 0) (tail:=[]) e hj
 rwa[aft]at this
theorem a3c {t:Nat}(ht:t<16):(XP t).num (aA (aH D (atB 0) (mF D)))=Dp D t:=by
 show((!(decide (aA _ (nm 3 t)=1)&&true))||(decide (D.p<(t:Int))&&((decide (aA _ (nm 0 t)=2)&&true)&&((decide (aA _ (nm 1 t)=1)&&true)&&(decide (aA _ (nm 2 t)=1)&&true)))))=_
 rw[QC h (b:=3) (G:=λj=>b2i ((Ct.fn D).i j)) rfl ht,QC h (b:=0) rfl ht,QC h (b:=1) rfl ht,QC h (b:=2) rfl ht,made.eG]
 unfold Dp
 rw[afg,afg,afg,afg]
theorem last (hs:Sm D){r:Bool}(hr:sO D=r):∀K (ok:aC K (fnB w D (atB 0) (mF D)).rho (fnB w D (atB 0) (mF D)).sig),@aO ((fnB w D (atB 0) (mF D)).aF K ok) Tryz.prog (rowT (if r then .exit 4 else .ret) (if r then sNT else sRT) K) iE:=by
 intro K ok
 have hLT:=sZ h hs
 have giv:∀t b,t<16->Dp D t=b->∀p∈[(XP t,b)],p.1.num (aA (aH D (atB 0) (mF D)))=p.2:=λt b ht e p hp=>by
  obtain rfl:=aeR.1 hp
  exact(a3c h ht).trans e
 have step:∀t,t<16->Dp D t=true->gY Tryz.prog (fnB w D (atB 0) (mF D)) (fnB w D (atB 0) (mF D)) iE (hdT t) .normal (hdT (t+1)):=λt ht e=>
  bI (aeV.1 stepT t (afs.2 ht)) (bC (aS h _ _)) (jc _ _) hLT (aK D _ _) (giv t true ht e) (λu hu=>by cases hu) rfl (bF f iE)
 cases r with
 |true=>
  refine @CS _ _ _ iE _ _ hdT _ _ (λe=>by cases e) 16 (jc _ _) (λu hu=>by cases hu) (λt ht=>step t ht (aeV.1 hr t (afs.2 ht))) ?_ 19 K ok
  exact bI PS (bC (aS h _ _)) (jc _ _) hLT (aK D _ _) (λp hp=>by cases hp) (λu hu=>by cases hu) rfl (bF f iE)
 |false=>
  rcases jU (Dp D) 16 with hall|⟨N,hN,h0,hn⟩
  ·unfold sO at hr
   rw[aeV.2 λt ht=>hall t (afs.1 ht)]at hr
   cases hr
  ·refine @CS _ _ _ iE _ _ hdT _ _ (λe=>by cases e) N (jc _ _) (λu hu=>by cases hu) (λt ht=>step t (by omega) (h0 t ht)) ?_ 19 K ok
   exact bI (aeV.1 a4k N (afs.2 hN)) (bC (aS h _ _)) (jc _ _) hLT (aK D _ _) (giv N false hN hn) (λu hu=>by cases hu) rfl (bF f iE)
def isV (D:FnD):Value:=.agg ((aib 16).map λj=>Value.bool ((Ct.fn D).i j)).toArray
theorem a4s (hs:Sm D)(hok:∀b∈D.bs,made.okB b=true):bM f [v] w (.tuple #[isV D,.bool (sO D)]):=by
 have val:∀r x u,@VV (fnB w D (atB 0) (mF D)) x (aa6 r) u->u=.tuple #[isV D,.bool r]:=λr x u hu=>by
  obtain⟨vs,rfl,hv⟩:=hu
  match vs,hv with
  |[a,c],⟨⟨us,ha,hus⟩,hc,_⟩=>
   have hc:c=.bool r:=hc
   rw[hc,ha]
   show Value.tuple #[_,_]=_
   congr 3
   unfold isV
   congr 2
   refine agT λj=>?_
   by_cases hj:j<16
   ·have hb:nth (lH 3) j=some (.xe [(nm 3 j,1)]):=by
     rw[aI]
     unfold lH
     rw[aeT,afH hj]
     rfl
    obtain⟨u,hu,hv⟩:=au.nth hus hb
    rw[hu,aeT,afH hj]
    have hv:u=.bool (decide (aA (aH D (atB 0) (mF D)) (nm 3 j)=1)||false):=hv
    rw[hv,QC h (b:=3) (G:=λj=>b2i ((Ct.fn D).i j)) rfl hj,made.eG,afL]
    rfl
   ·have hl:us.length=16:=by have:=hus.len;simp[lH]at this;omega
    rw[afT (by omega),afT (by simp;omega)]
 have rig:∀r,sO D=r->jJ Tryz.prog (dG gU cu (a2u (if r then .exit 4 else .ret) (if r then sNT else sRT))) (fnB w D (atB 0) (mF D)):=λr hr=>
  fV jA (aS h _ _) (rows_ok λK ok p hp=>by
   simp only[aeQ,aeZ,afj]at hp
   rcases hp with rfl|rfl
   ·exact⟨F,Tryz.func106,λc hc=>iH PU (outer h hs hok K ok) hc⟩
   ·exact⟨F,Tryz.func106,λc hc=>iH a0t (last h hs hr K ok) hc⟩)
 cases hr:sO D with
 |true=>exact jM h acL (rig true hr) (sZ h hs) (aK D _ _) (λp hp=>by cases hp) (λr x hx=>val true r x hx)
 |false=>exact jM h sF (rig false hr) (sZ h hs) (aK D _ _) (λp hp=>by cases hp) (λr x hx=>val false r x hx)
end
end twos
namespace check
open Go.RowKit Am
noncomputable def f:FuncId:=47
def iY (D:FnD):Int:=if many.jq D then 4 else if !made.kT D then 8 else if !twos.sO D then 12 else 0
def adP (r:Bool):V:=.t [.g (aia 16 .top),.s (.bool r)]
noncomputable def lib (l:List (FuncId×V)):Know->aU:=λ_=>FB (l.map λp=>nJ p.1 [.g bK] p.2)
noncomputable def rL (b:Bool):FuncId×V:=(many.fA,V.s (.bool b))
noncomputable def rM (b:Bool):FuncId×V:=(made.f,V.s (.bool b))
noncomputable def rT (b:Bool):FuncId×V:=(twos.f,adP b)
noncomputable def run (l:List (FuncId×V))(n:Int):Lf->Bool:=lu (dG (lib l) cu bg) f dW [] [] (λ_=>V.s (.int .i64 n)) [.g bK]
noncomputable def L0:Lf:=Lf.of (eH++[])
theorem a9W:aG (run [rL true] 4) .leaf L0=true:=by kernel_rfl
theorem aaA:aG (run [rL false,rM false] 8) .leaf L0=true:=by kernel_rfl
theorem a5b:aG (run [rL false,rM true,rT false] 12) .leaf L0=true:=by kernel_rfl
theorem aaw:aG (run [rL false,rM true,rT true] 0) .leaf L0=true:=by kernel_rfl
theorem xW {D:FnD}(h:many.jq D=false):D.ls.length<=16/\D.bs.length<=24/\∀b∈D.bs,b.st.length<=24:=by
 unfold many.jq at h
 simp only[agC,afB,agP]at h
 obtain⟨h1,h2,h3⟩:=h
 exact⟨by omega,by omega,λb hb=>agu (aeV.1 h3 b hb)⟩
theorem yc {D:FnD}(h:made.kT D=true):∀b∈D.bs,made.okB b=true:=by
 unfold made.kT at h
 simp only[aeI]at h
 exact aeV.1 h.2.2.1
section
variable {w:World} {v:Value} {D:FnD} (h:aZ w v D)
include h
theorem XC (hs:many.jq D=false)(hm:made.kT D=true):twos.Sm D:=by
 obtain⟨_,h2,h3⟩:=xW hs
 refine⟨h2,λb hb=>⟨h3 b hb,?_⟩⟩
 have ok:=yc hm b hb
 unfold made.okB at ok
 rw[aeI]at ok
 exact AV (by rw[<-(h.blk b hb).rJ.len];rfl) ok.2
theorem a2z {q:At}{m:List Int}{l:List (FuncId×V)}(hl:∀p∈l,dJ Tryz.prog p.1/\∃u,(∀(b0:Base) r,@VV b0 r p.2 u)/\∀w',aZ w' v D->bM p.1 [v] w' u)(K:Know)(ok:aC K (fnB w D q m).rho (fnB w D q m).sig):@Sound ((fnB w D q m).aF K ok) Tryz.prog (lib l K):=
 @kD ((fnB w D q m).aF K ok) _ _ λo ho=>by
  obtain⟨p,hp,rfl⟩:=afo.1 ho
  obtain⟨h1,u,h2,h3⟩:=hl p hp
  exact BI h h1 h2 q m h3 K ok
theorem uT:bM f [v] w (.int .i64 (iY D)):=by
 have L0h:L0.Holds (aA (aH D (atB 0) [])) (λ_=>[]):=lC h (q:=atB 0) (fD (by omega)) (iv:=[]) (m1:=[]) (m2:=[]) trivial _
 have pL:∀b,many.jq D=b->dJ Tryz.prog (rL b).1/\∃u,(∀(b0:Base) r,@VV b0 r (rL b).2 u)/\∀w',aZ w' v D->bM (rL b).1 [v] w' u:=λb e=>⟨⟨_,Tryz.func104,by kernel_rfl,by kernel_rfl⟩,.bool b,λ_ _=>rfl,λw' hw=>e▸many.Yj hw⟩
 have pM:∀b,many.jq D=false->made.kT D=b->dJ Tryz.prog (rM b).1/\∃u,(∀(b0:Base) r,@VV b0 r (rM b).2 u)/\∀w',aZ w' v D->bM (rM b).1 [v] w' u:=λb e0 e=>⟨⟨_,Tryz.func105,by kernel_rfl,by kernel_rfl⟩,.bool b,λ_ _=>rfl,λw' hw=>e▸(by
  obtain⟨s1,s2,s3⟩:=xW e0
  exact made.a5e hw s1 s2 s3)⟩
 have pT:∀b,many.jq D=false->made.kT D=true->twos.sO D=b->dJ Tryz.prog (rT b).1/\∃u,(∀(b0:Base) r,@VV b0 r (rT b).2 u)/\∀w',aZ w' v D->bM (rT b).1 [v] w' u:=λb e0 e1 e=>⟨⟨_,Tryz.func106,by kernel_rfl,by kernel_rfl⟩,.tuple #[twos.isV D,.bool b],λb0 r=>⟨[twos.isV D,.bool b],rfl,⟨_,rfl,⟨rfl,rfl,rfl,rfl,rfl,rfl,rfl,rfl,rfl,rfl,rfl,rfl,rfl,rfl,rfl,rfl,trivial⟩⟩,rfl,trivial⟩,λw' hw=>e▸twos.a4s hw (XC hw e0 e1) (yc e1)⟩
 have go:∀{l:List (FuncId×V)} {n:Int},aG (run l n) .leaf L0=true->(∀p∈l,dJ Tryz.prog p.1/\∃u,(∀(b0:Base) r,@VV b0 r p.2 u)/\∀w',aZ w' v D->bM p.1 [v] w' u)->bM f [v] w (.int .i64 n):=λ{l n} hr hl=>
  jM h hr (fV (a2z h hl) (aS h _ _) pR) L0h (aK D _ _) (λp hp=>by cases hp) (λr x hx=>hx)
 unfold iY
 cases e0:many.jq D with
 |true=>exact go a9W (λp hp=>by obtain rfl:=aeR.1 hp;exact pL true e0)
 |false=>
  cases e1:made.kT D with
  |false=>exact go aaA (λp hp=>by
    simp only[aeQ,aeZ,afj]at hp
    rcases hp with rfl|rfl
    ·exact pL false e0
    ·exact pM false e0 e1)
  |true=>
   cases e2:twos.sO D with
   |false=>exact go a5b (λp hp=>by
     simp only[aeQ,aeZ,afj]at hp
     rcases hp with rfl|rfl|rfl
     ·exact pL false e0
     ·exact pM true e0 e1
     ·exact pT false e0 e1 e2)
   |true=>exact go aaw (λp hp=>by
     simp only[aeQ,aeZ,afj]at hp
     rcases hp with rfl|rfl|rfl
     ·exact pL false e0
     ·exact pM true e0 e1
     ·exact pT true e0 e1 e2)
end
end check
namespace Am
open Go.RowKit
noncomputable section
def a1Z (R:Rig)(f:FuncId)(fx:Fx)(giv:List (E×Bool))(es:List E)(g:List Bool->V)(args:List A)(L:Lf):Bool:=
 @IG (L.ig fx) giv||Option.rec false (λbs=>abf (g bs) (@qR (L.ig fx) R.ty R.fn (R.lib (L.ig fx)) R.tb (R.loops (L.ig fx)) R.n R.d f (args.map L.nA) ⟨[],0⟩ 0)) (@yE (L.ig fx) es)
theorem UU {P:Program}{R:Rig}{f:FuncId}{b:Base}{w:World}(hnb:b.nb<=w.heap.size)(hg:∀k,k<b.nb->w.heap[k]? =b.g k)(hR:jJ P R b){L0:Lf}{hs:HT}{fx:Fx}{giv:List (E×Bool)}{es:List E}{g:List Bool->V}{args:List A}{vs:List Value}
  (h0:L0.Holds b.rho b.sig) (hf:vJ fx b.rho) (has:∀p∈giv,p.1.num b.rho=p.2) (ha:au (@VA b r0) args vs) (hrun:aG (a1Z R f fx giv es g args) hs L0=true):
  Calls P f vs.toArray w λx w'=>∃u r,x=.returned u/\@VV b r (g (es.map (E.num b.rho))) u/\Below w.heap.size w w':=by
 obtain⟨L,hLh,ht⟩:=pI hrun h0
 unfold a1Z at ht
 rw[afJ]at ht
 let bL:Base:=b.aF (L.ig fx) (Lf.okX hLh hf)
 rcases ht with ht|ht
 ·rw[@AZ bL giv has]at ht
  cases ht
 ·cases ha':@yE (L.ig fx) es with
  |none=>rw[ha']at ht;cases ht
  |some bs=>
   rw[ha']at ht
   obtain⟨h',hr⟩:=Xe ht
   have e:es.map (E.num b.rho)=bs:=@yQ bL _ _ ha'
   rw[e]
   exact @je bL P w hnb hg _ (hR.sound _ _) f _ _ (@Lf.xU bL L r0 hLh _ _ ha) _ h' hr
end
end Am
namespace far
open Go.RowKit Am
noncomputable def f:FuncId:=189
def uH (ns:Nat->Int)(c:Nat):Bool:=(aib 16).any λj=>decide (c<j+1)&&!decide (ns j<1)
def a6q:E:=(aib 16).foldr (λ(j:Nat) (e:E)=>.or (.and (.lt 0 ((j:Int)+1)) (.not (.lt (1+j) 1))) e) (.not (.zero []))
def chain:Nat->Nat->HT
 |0,_=>.leaf
 |n+1,j=>.on (1+j) 1 (chain n (j+1)) .leaf
def tree:HT:=(aib 16).foldr (λ(k:Nat) (t:HT)=>.on 0 ((k:Int)+2) (chain (15-k) (k+1)) t) .leaf
def args:List A:=[.g ((aib 16).map λj=>.xi .i64 (1+j)),.s (.xi .i64 0)]
noncomputable def L0:Lf:=Lf.of ((1,16)::aia 16 twos.Fv)
noncomputable def run:Lf->Bool:=a1Z (dG gU Tabs.nought bg) f ⟨[],x9.nought⟩ [] [a6q] (λbs=>V.s (.bool (bs.headD false))) args
theorem nU:aG run tree L0=true:=by kernel_rfl
theorem a8t (ns:Nat->Int)(hn:∀j,-9223372036854775808<=ns j/\ns j<=9223372036854775807)(c:Nat)(h1:1<=c)(h16:c<=16)(w:World):
  bM f [.agg ((aib 16).map λj=>Value.int .i64 (ns j)).toArray,.int .i64 c] w (.bool (uH ns c)):=by
 let e:Env:=⟨w,(c:Int)::nK ns,[]⟩
 have rn:∀j,j<16->aA ((c:Int)::nK ns) (1+j)=ns j:=λj hj=>by
  have:=Et [ns] [] 0 j ns rfl hj
  simp only[cZ,aft,Nat.mul_zero,afK]at this
  rw[show(c:Int)::nK ns=[(c:Int)]++nK ns from rfl,kR (n:=1) rfl]
  exact this
 have hL:L0.Holds e.b.rho e.b.sig:=Lf.a2A λi p hp=>by
  have hall:au InI ((1,16)::aia 16 twos.Fv) ((c:Int)::nK ns):=⟨⟨by show(1:Int)<=c;omega,by show(c:Int)<=16;omega⟩,twos.pq hn⟩
  obtain⟨x,hx,hi⟩:=au.nth hall (n:=i) (x:=p) (by rw[aI];exact hp)
  have:aA ((c:Int)::nK ns) i=x:=by unfold aA;rw[af8,hx];rfl
  show p.1<=aA ((c:Int)::nK ns) i/\aA ((c:Int)::nK ns) i<=p.2
  rw[this]
  exact hi
 have ha:au (@VA e.b r0) args [.agg ((aib 16).map λj=>Value.int .i64 (ns j)).toArray,.int .i64 c]:=by
  refine⟨⟨_,rfl,fZ (by simp) λj x u hx hu=>?_⟩,rfl,trivial⟩
  have hj:j<16:=by have:=(aeU.1 hu).1;simpa using this
  rw[aeT,afH hj]at hx hu
  cases hx
  cases hu
  show Value.int .i64 _=.int .i64 (aA ((c:Int)::nK ns) (1+j))
  rw[rn j hj]
 have hE:a6q.num e.b.rho=uH ns c:=by
  show a6q.num (aA ((c:Int)::nK ns))=_
  have e0:aA ((c:Int)::nK ns) 0=c:=rfl
  have ej:∀j:Nat,(E.and (.lt 0 ((j:Int)+1)) (.not (.lt (1+j) 1))).num (aA ((c:Int)::nK ns))=(decide ((c:Int)<(j:Int)+1)&&!decide (aA ((c:Int)::nK ns) (1+j)<1)):=λj=>rfl
  have key:∀l:List Nat,(∀j∈l,j<16)->((l.foldr (λ(j:Nat) (e:E)=>E.or (.and (.lt 0 ((j:Int)+1)) (.not (.lt (1+j) 1))) e) (.not (.zero []))).num (aA ((c:Int)::nK ns)))=l.any λj=>decide (c<j+1)&&!decide (ns j<1):=by
   intro l
   induction l with
   |nil=>intro _;rfl
   |cons j l ih=>
    intro hl
    show((E.and _ _).num _||_)=_
    rw[ej,ih λx hx=>hl x (by simp[hx]),rn j (hl j (by simp)),agz]
    congr 2
    exact afG.2 (by omega)
  exact key _ λj hj=>afs.1 hj
 have hR:jJ Tryz.prog (dG gU Tabs.nought bg) e.b:=bC (@bQ.nought e.b)
 have:=UU (b:=e.b) (w:=w) (aeM _) (λ_ _=>rfl) hR hL ⟨λ_ _ _ h=>(by cases h),vK.nought _⟩ (λp hp=>by cases hp) ha nU
 refine bM.of (b:=e.b) (v:=V.s (.bool (uH ns c))) (λr x hx=>hx) ?_
 refine this.mono λx w' ⟨u,r,e1,e2,e3⟩=>⟨u,r,e1,?_,e3⟩
 have e2:u=.bool (a6q.num e.b.rho):=e2
 show u=_
 rw[e2,hE]
end far
namespace Am
open Go.RowKit
structure UR where
 dst:Nat
 l:Nat
 m:Nat
def jL:List S:=aia 16 (.int .i64 0)
def aem (Z:List UR)(T:List Cnt):x9:={ dW.xt with ld:=Z.map (λt=>(jL,t.l,t.m))++T.map λt=>(bV t.src,t.l,t.m),sr:=Z.map (λt=>(jL,t.l,t.m+1,bV t.dst))++T.map λt=>(bV t.src,t.l,t.m+1,bV t.dst) }
def Rf (Z:List UR)(T:List Cnt):Fx:=⟨Z.map (λt=>(t.m,1,t.m+1))++T.map λt=>(t.m,1,t.m+1),aem Z T⟩
structure a2V (rho:Nat->Int)(t:UR):Prop where
 d:∀j,j<16->rho (nm t.dst j)=bump (λ_=>0) (rho t.l) j
 m0:rho t.m=0
 m1:rho (t.m+1)=1
theorem Qn {j:Nat}{c:S}(h:jL[j]? =some c):j<16/\c=.int .i64 0:=by
 have hj:j<16:=by have:=(aeU.1 h).1;simpa[jL]using this
 unfold jL at h
 rw[agv,afm hj]at h
 cases h
 exact⟨hj,rfl⟩
theorem Q7 {Z:List UR}{T:List Cnt}{rho:Nat->Int}(h0:vJ dW rho)(hz:∀t∈Z,a2V rho t)(h:∀t∈T,a1k rho t):vJ (Rf Z T) rho:=by
 have hT:=BF h0 h
 refine⟨λi c k hm=>?_,⟨h0.xt.lf,h0.xt.sm,λcs i m hm=>?_,λcs i m ds hm=>?_,h0.xt.eq⟩⟩
 ·rcases afl.1 (show(i,c,k)∈Z.map (λt=>(t.m,(1:Int),t.m+1))++T.map λt=>(t.m,(1:Int),t.m+1)from hm)with hm|hm
  ·obtain⟨t,ht,e⟩:=afo.1 hm
   cases e
   have k:=hz t ht
   rw[k.m0,k.m1]
   exact⟨rfl,by decide,by decide⟩
  ·exact hT.ad i c k hm
 ·rcases afl.1 (show(cs,i,m)∈Z.map (λt=>(jL,t.l,t.m))++T.map λt=>(bV t.src,t.l,t.m)from hm)with hm|hm
  ·obtain⟨t,ht,e⟩:=afo.1 hm
   cases e
   intro j c hc _
   obtain⟨_,rfl⟩:=Qn hc
   show some (0:Int)=some (rho t.m)
   rw[(hz t ht).m0]
  ·exact hT.xt.ld cs i m hm
 ·rcases afl.1 (show(cs,i,m,ds)∈Z.map (λt=>(jL,t.l,t.m+1,bV t.dst))++T.map λt=>(bV t.src,t.l,t.m+1,bV t.dst)from hm)with hm|hm
  ·obtain⟨t,ht,e⟩:=afo.1 hm
   cases e
   have k:=hz t ht
   refine⟨by simp[bV,jL],λj c d hc hd=>?_⟩
   obtain⟨hj,rfl⟩:=Qn hc
   obtain⟨_,rfl⟩:=qY hd
   refine⟨0,rfl,?_⟩
   show some (rho (nm t.dst j))=_
   rw[k.d j hj,k.m1]
   unfold bump
   by_cases e:rho t.l=(j:Int)
   ·rw[afm e,afn e];rfl
   ·rw[afc e,af2 e];rfl
  ·exact hT.xt.sr cs i m ds hm
theorem G9 {D:FnD}{q:At}{fs:List (Nat->Int)}{tail:List Int}{t:UR}{n N:Nat}(hn:fs.length=N)(h2:fs[t.dst]? =some (bump (λ_=>0) (aA (aH D q (cZ fs++tail)) t.l)))(hm:t.m=77+(16*N+n))(e0:aA tail n=0)(e1:aA tail (n+1)=1):a2V (aA (aH D q (cZ fs++tail))) t:=
 ⟨λj hj=>gG h2 hj,by rw[hm,CQ hn,e0],by rw[hm,show 77+(16*N+n)+1=77+(16*N+(n+1))by omega,CQ hn,e1]⟩
end Am
namespace occurs
open Go.RowKit Am
noncomputable def f:FuncId:=146
def Z:List UR:=[⟨0,49,189⟩,⟨1,46,191⟩,⟨2,25,193⟩]
def T:List Cnt:=[⟨2,3,41,195⟩,⟨2,4,33,197⟩,⟨4,5,38,199⟩,⟨2,6,38,201⟩]
def o0:Nat->Int:=λ_=>0
def rows (st:List Value):List (Nat->Int):=
 [bump o0 (ah st 25),bump o0 (ah st 22),bump o0 (ah st 1),bump (bump o0 (ah st 1)) (ah st 17),bump (bump o0 (ah st 1)) (ah st 9),bump (bump (bump o0 (ah st 1)) (ah st 9)) (ah st 14),bump (bump o0 (ah st 1)) (ah st 14)]
def more (st:List Value):List Int:=cZ (rows st)++([0,1,0,1,0,1]++(twos.vY (bump o0 (ah st 1)) (ah st 17)++(twos.vY (bump o0 (ah st 1)) (ah st 9)++(twos.vY (bump (bump o0 (ah st 1)) (ah st 9)) (ah st 14)++twos.vY (bump o0 (ah st 1)) (ah st 14)))))
def out (bs:List Bool):V:=.a (.g (bif Nat.beq (twos.jK bs) 0 then jL else bV (twos.jK bs-1)))
def op4 (k:Nat)(t:HT):HT:=.by k 1 t (.by k 2 t (.by k 3 t (.by k 4 t t)))
def sa0:HT:=.by 44 1 .leaf .leaf
def asT:HT:=.on 28 1 .leaf (.on 28 2 (op4 31 sa0) (.on 28 3 (op4 31 (op4 36 sa0)) (.on 28 4 (op4 31 (op4 36 sa0)) (.on 28 6 (.by 28 5 sa0 sa0) .leaf))))
def stT:HT:=.on 24 1 .leaf (.on 24 2 asT (.on 24 3 (op4 44 .leaf) (.on 24 4 sa0 (.on 24 5 (op4 44 .leaf) .leaf))))
noncomputable def L1:Lf:=twos.LI (Lf.of (eH++[]))
noncomputable def run:Lf->Bool:=lu (dG gU Tabs.nought bg) f (Rf Z T) [(YU,true)] (twos.yh.map twos.xq) out [.g lV]
theorem nU:aG run stT L1=true:=by kernel_rfl
