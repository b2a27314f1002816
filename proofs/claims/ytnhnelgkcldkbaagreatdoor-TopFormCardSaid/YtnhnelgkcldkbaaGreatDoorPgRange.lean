/- What fnshape.Calls answers. -/
import Derived.Test.YtnhnelgkcldkbaaGreatDoorPgC
set_option linter.all false
set_option maxRecDepth 100000
open List renaming replicate → aia
namespace Go.Proofs.YtnhnelgkcldkbaaGreatDoor
namespace callsF
open Go.RowKit Am
theorem aep:(BU ((Lf.of (ivU 16)).lo 6 8)&&BU ((Lf.of (ivU 16)).hi 6 (-1)))=true:=by kernel_rfl
theorem a6c {w:World}{v:Value}{pre:List Value}{sv:Value}{post:List Value}{els:List (List Value)}(hj:jd w v pre sv post els)(h:okJ pre els post=true):0<=ah pre 6/\ah pre 6<=7:=by
 have hl:=jS hj
 have lp:=ji hj
 let us:List Value:=aW pre els post++(kV pre els post).map (Value.int .i64)
 have hk:au Kd.ok (kJ++[.i .i64,.i .i64,.i .i64]) us:=(sW hj).app ⟨⟨_,rfl,by have:=eU (els.all λel=>(aY 0).val el);show(-9223372036854775808:Int)<=_;omega,by have:=eU (els.all λel=>(aY 0).val el);show _<=(9223372036854775807:Int);omega⟩,⟨_,rfl,by have:=eU ((aY 1).val (aW pre els post));show(-9223372036854775808:Int)<=_;omega,by have:=eU ((aY 1).val (aW pre els post));show _<=(9223372036854775807:Int);omega⟩,⟨_,rfl,by have:=eU ((dX 10).val (aW pre els post));show(-9223372036854775808:Int)<=_;omega,by have:=eU ((dX 10).val (aW pre els post));show _<=(9223372036854775807:Int);omega⟩,trivial⟩
 have h0:(Lf.of (ivU 16)).Holds (ah us) (λ_=>[]):=zN hk rfl
 have ea:∀i,i<13->ah us i=ah (aW pre els post) i:=λi hi=>jy (by omega)
 have ep:∀i,i<9->ah us i=ah pre i:=λi hi=>(ea i (by omega)).trans (by unfold aW;exact jy (by omega))
 have eb:∀j m,(kV pre els post)[j]? =some m->ah us (13+j)=m:=λj m hm=>by
  show ah (aW pre els post++_) _=_
  rw[lg hl]
  unfold ah
  rw[aeT,hm]
  rfl
 have e14:ah us 14=b2i ((aY 1).val (aW pre els post)):=eb 1 _ rfl
 have e15:ah us 15=b2i ((dX 10).val (aW pre els post)):=eb 2 _ rfl
 have idr:∀e:E,e.ren (λi=>i)=e:=λe=>by
  induction e with
  |lt i c=>rfl
  |zero l=>simp[E.ren]
  |and a b ha hb=>rw[E.ren,ha,hb]
  |or a b ha hb=>rw[E.ren,ha,hb]
  |not a ha=>rw[E.ren,ha]
 have sm:∀e:E,e.bd 13=true->e.num (ah us)=e.val (aW pre els post):=λe he=>by
  rw[E.iD]
  have:=E.jD (f:=λi=>i) he ea
  rwa[idr]at this
 have sp:∀e:E,e.bd 9=true->e.num (ah us)=e.num (ah pre):=λe he=>by
  have:=E.jD (f:=λi=>i) he ep
  rwa[idr]at this
 have one:∀i c,(isE i c).num (ah us)=decide (ah us i=c):=λi c=>by show(decide _&&true)=_;rw[afg]
 have hg:∀p∈jmG,p.1.num (ah us)=p.2:=λp hp=>by
  simp only[jmG,aeQ,aeZ,afj]at hp
  rcases hp with rfl|rfl|rfl
  ·unfold okJ at h
   rw[E.iD]at h
   exact h
  ·refine pG ?_
   rw[one,e14,made.eG,sm _ rfl]
  ·refine pG ?_
   rw[one,e15,made.eG,sm _ rfl]
 have c6:=ep 6 (by decide)
 have r:=aep
 rw[aeI]at r
 constructor
 ·apply afy;intro hc;exact cannot r.2 (h0.hi (i:=6) (c:=-1) (by omega)) hg
 ·apply afy;intro hc;exact cannot r.1 (h0.lo (i:=6) (c:=8) (by omega)) hg
def jP (b:bU)(j:Nat):Bool:=decide (ah b.pre 0=4)&&decide (ah b.pre 6=(j:Int))
def yZ (D:FnD)(i j:Nat):Bool:=(D.bs.take i).any λb=>jP b j
def called (D:FnD)(j:Nat):Bool:=D.bs.any λb=>jP b j
def mk (D:FnD)(i:Nat):List Int:=cZ [λj=>b2i (yZ D i j)]++[]
def mF (D:FnD):List Int:=cZ [λj=>b2i (called D j)]++[]
def vec (D:FnD):List Bool:=[called D 0,called D 1,called D 2,called D 3,called D 4,called D 5,called D 6,called D 7]
theorem pins {rho:Nat->Int}{sig:Nat->List UInt8}:∀{L:Lf} (h:L.Holds rho sig) (g:Nat->Int) (l:List Nat) (hl:∀j∈l,rho (nm 0 j)=g j),(l.foldl (λL j=>L.pin (nm 0 j) (g j)) L).Holds rho sig
 |_,h,_,[],_=>h
 |_,h,g,j::l,hl=>pins (h.pin (hl j (afh ..))) g l λi hi=>hl i (afd _ hi)
section
variable {w:World} {v:Value} {D:FnD} (h:aZ w v D)
include h
theorem loop (hs:twos.Sm D)(hok:∀b∈D.bs,made.okB b=true)(K:Know)(ok:aC K (fnB w D (atB 0) (mF D)).rho (fnB w D (atB 0) (mF D)).sig):@aO ((fnB w D (atB 0) (mF D)).aF K ok) Tryz.prog (row K) mX:=by
 have hn:=hs.b
 have okb:∀i,i<D.bs.length->xJ (D.blk i)=true:=λi hi=>by
  have:=hok _ (twos.nR hi)
  unfold made.okB at this
  rw[aeI]at this
  exact this.2
 have r0:∀i j,j<16->(fnB w D (atB i) (mk D i)).rho (nm 0 j)=b2i (yZ D i j):=λi j hj=>gG (D:=D) (q:=atB i) (fs:=[λj=>b2i (yZ D i j)]) (tail:=[]) (b:=0) (f:=λj=>b2i (yZ D i j)) rfl hj
 have rF:∀j,j<16->(fnB w D (atB 0) (mF D)).rho (nm 0 j)=b2i (called D j):=λj hj=>gG (D:=D) (q:=atB 0) (fs:=[λj=>b2i (called D j)]) (tail:=[]) (b:=0) (f:=λj=>b2i (called D j)) rfl hj
 refine @dn _ _ (λi=>fnB w D (atB i) (mk D i)) mX _ _ hd _ _ (λe=>by cases e) D.bs.length (bJ _ _ _ _) (λu hu=>?_) (λi hi=>?_) ?_ 7 K ok
 ·rcases aeQ.1 hu with rfl|hu
  ·exact dM λr v hv=>hv
  exact xA (λj hj=>r0 0 j hj) u hu
 ·have fu:=a6c (sU h hi) (okb i hi)
  refine bI step (bC (@aX (fnB w D (atB i) (mk D i)) cu iJ (aS h _ _) (dN h (q:=atB i) hi _))) (bJ _ _ _ _) (L:=L1) ?_ (aK D _ _) (λp hp=>by cases hp) (λu hu=>?_) rfl (bF f mX)
  ·have hb:=(twos.dU h (atB i) (fD (by omega)) (mk D i)).pin (i:=6) (c:=1) (show b2i (decide ((i:Int)<D.bs.length))=1 from(dh _).2 (by omega))
   exact(hb.lo (i:=14) (c:=0) (show 0<=ah (D.blk i).pre 6 from fu.1)).hi (i:=14) (c:=7) (show ah (D.blk i).pre 6<=7 from fu.2)
  ·rcases aeQ.1 hu with rfl|hu
   ·exact dM λr v hv=>hv
   refine DK (λj hj=>?_) u hu
   have e8:(fnB w D (atB i) (mk D i)).rho 8=ah (D.blk i).pre 0:=rfl
   have e14:(fnB w D (atB i) (mk D i)).rho 14=ah (D.blk i).pre 6:=rfl
   have eN:(isE 8 4).num (fnB w D (atB i) (mk D i)).rho=decide (ah (D.blk i).pre 0=4):=by
    show(decide (_=(4:Int))&&true)=_
    rw[e8,afg]
   rw[eN,e14,r0 (i+1) j hj,r0 i j hj]
   unfold yZ
   rw[twos.xR _ b0 _ hi,made.mg,made.mg,afJ]
   show(_\/(decide (ah (D.blk i).pre 0=4)&&decide (ah (D.blk i).pre 6=(j:Int)))=true)↔_
   rw[aeI,ag8,ag8]
   exact Or.comm
 ·refine bI stop (bC (aS h _ _)) (bJ _ _ _ _) (L:=L0) ((twos.dU h (atB D.bs.length) (fD (by omega)) _).pin (i:=6) (c:=0) (show b2i (decide ((D.bs.length:Int)<D.bs.length))=0 by rw[af2 (by omega)];rfl)) (aK D _ _) (λp hp=>by cases hp) (λu hu=>?_) rfl (bF f mX)
  refine iF (λj hj=>(r0 _ j hj).trans (Eq.trans ?_ (rF j hj).symm)) u hu
  unfold yZ called
  rw[afq]
theorem sZ:LT.Holds (aA (aH D (atB 0) (mF D))) (λ_=>[]):=by
 have:au InI (aia 16 ivB) (mF D):=gq (a:=aia 16 ivB) (c:=[]) (gq (a:=aia 16 ivB) (c:=[]) (twos.pq λj=>sG _) trivial) trivial
 have:=lC h (q:=atB 0) (fD (by omega)) this (m2:=[]) (λ_=>[])
 rwa[aft]at this
theorem Z7 (hc:check.iY D=0):Calls Tryz.prog f #[v] w λe w'=>∃s,e=.returned (.tuple #[s,.int .i64 0])/\zK w w' s ((lits (vec D)).map (Value.int .i64))/\Below w.heap.size w w':=by
 have hs:=size.sm h hc
 have hok:=check.yc (size.xX hc).2.1
 have hl:∀K (ok:aC K (fnB w D (atB 0) (mF D)).rho (fnB w D (atB 0) (mF D)).sig),@Sound ((fnB w D (atB 0) (mF D)).aF K ok) Tryz.prog (size.lib K):=BI h ⟨_,Tryz.func47,by kernel_rfl,by kernel_rfl⟩ (mv:=V.s (.int .i64 0)) (u:=.int .i64 0) (λb0 r=>rfl) (atB 0) (mF D) λw' hw=>hc▸check.uT hw
 have hR:jJ Tryz.prog (dG size.lib cu λK=>dV [(f,row K)]) (fnB w D (atB 0) (mF D)):=fV hl (aS h _ _) (rows_ok (T:=λK=>[(f,row K)]) λK ok p hp=>by
  obtain rfl:=aeR.1 hp
  exact⟨F,Tryz.func99,λc hc=>iH tag (loop h hs hok K ok) hc⟩)
 have rF:∀j,j<16->aA (aH D (atB 0) (mF D)) (nm 0 j)=b2i (called D j):=λj hj=>gG (D:=D) (q:=atB 0) (fs:=[λj=>b2i (called D j)]) (tail:=[]) (b:=0) (f:=λj=>b2i (called D j)) rfl hj
 have hv8:∀j,j<8->(vec D).getD j false=called D j:=λj hj=>by
  have h8:j=0\/j=1\/j=2\/j=3\/j=4\/j=5\/j=6\/j=7:=by omega
  rcases h8 with rfl|rfl|rfl|rfl|rfl|rfl|rfl|rfl<;>rfl
 have hL:(LP (vec D)).Holds (aA (aH D (atB 0) (mF D))) (λ_=>[]):=pins (sZ h) (λj=>b2i ((vec D).getD j false)) (List.range 8) λj hj=>by
  have hj:=afs.1 hj
  rw[rF j (by omega),hv8 j hj]
 have hR':jJ Tryz.prog R (fnB w D (atB 0) (mF D)):=hR
 have hk:okP (vec D)=true:=a9F _ _ _ _ _ _ _ _
 unfold okP at hk
 have hva:au (@VA (fnB w D (atB 0) (mF D)) r0) [.g bK] [v]:=⟨wF h (atB 0) _ r0,trivial⟩
 exact SV (b:=fnB w D (atB 0) (mF D)) (w:=w) (aeM _) (λ_ _=>rfl) hR' hL (aK D _ _) hva hk
end
end callsF
namespace Am
open Go.RowKit
def qj:Value:=.slice none 0 0
def bU.core (b:bU):bU:=⟨qj,b.pre,qj,b.post,b.st,b.ops⟩
def FnD.core (D:FnD):FnD:=⟨D.p,D.u,qj,qj,D.ls,D.bs.map bU.core,⟨qj,[]⟩⟩
section
variable (D:FnD)
theorem YI:many.jq D.core=many.jq D:=by
 unfold many.jq FnD.core
 rw[af4,agG]
 rfl
theorem YA:made.kT D.core=made.kT D:=by
 unfold made.kT
 have h1:head.ny D.core=head.ny D:=rfl
 have h2:D.core.bs.length=D.bs.length:=by unfold FnD.core;rw[af4]
 have h3:D.core.ls=D.ls:=rfl
 have h4:∀p:bU->Bool,D.core.bs.all p=D.bs.all λb=>p b.core:=λp=>by unfold FnD.core;rw[agG];rfl
 rw[h1,h2,h3,h4,h4]
 rfl
theorem a7K:twos.Ct.fn D.core=twos.Ct.fn D:=by
 unfold twos.Ct.fn FnD.core
 rw[List.foldl_map]
 rfl
theorem YK:twos.sO D.core=twos.sO D:=by
 unfold twos.sO
 congr 1
 funext t
 unfold twos.Dp
 rw[a7K]
 rfl
theorem a1A:check.iY D.core=check.iY D:=by
 unfold check.iY
 rw[YI,YA,YK]
theorem Wh {α β:Type}(f:β->Int)(g:α->β):∀l:List α,acc f (l.map g)=acc (λx=>f (g x)) l
 |[]=>rfl
 |x::l=>by show f (g x)+acc f (l.map g)=_+acc _ l;rw[Wh f g l]
theorem KI:size.jl D.core=size.jl D:=by
 unfold size.jl FnD.core
 rw[af4,Wh]
 rfl
end
section
variable {α:Type} {p:α->Bool} {f:α->α} {l:List α} {b:Nat}
end
section
variable {C:FnD} {b:Nat} {f:bU->bU}
end
section
variable {C:FnD} {b:Nat} (n:Int)
end
end Am
namespace prg
open Go.RowKit Am loan bld
theorem KR:∀Ds:List FnD,sF (Ds.map FnD.core)=sF Ds
 |[]=>rfl
 |D::Ds=>by
  rw[afr]
  unfold sF
  rw[a1A,KR Ds]
theorem DX (Ds:List FnD)(i:Nat):((Ds.map FnD.core).getD i noF).ls=(Ds.getD i noF).ls/\((Ds.map FnD.core).getD i noF).p=(Ds.getD i noF).p:=by
 simp only[af8,aeT]
 cases Ds[i]? <;>exact⟨rfl,rfl⟩
theorem PI (Ds:List FnD):lY (Ds.map FnD.core)=lY Ds:=by
 unfold lY
 rw[(DX Ds 0).1,(DX Ds 0).2]
theorem UC (Ds:List FnD)(b:bU):jP (Ds.map FnD.core) b.core=jP Ds b:=by
 unfold jP
 rw[(DX Ds _).2,af4]
 rfl
theorem TG (Ds:List FnD):ou (Ds.map FnD.core)=ou Ds:=by
 unfold ou
 rw[agG]
 congr 1
 funext D
 show(FnD.core D).bs.all _=_
 unfold FnD.core
 rw[agG]
 congr 1
 funext b
 exact UC Ds b
theorem MG (Ds:List FnD):jX (Ds.map FnD.core)=jX Ds:=by
 unfold jX
 rw[af4,KR,PI,TG]
theorem qO {Ds Es:List FnD}(h:Ds.map FnD.core=Es.map FnD.core):jX Ds=jX Es:=by rw[<-MG Ds,h,MG]
end prg
namespace twin
open Go.RowKit Am
end twin
namespace own
open Go.RowKit Am twin
end own
namespace txt
open Go.RowKit Am loan bld
theorem OZ {D D':FnD}(h:D'.core=D.core):D'.p=D.p/\D'.u=D.u/\D'.ls=D.ls/\D'.bs.map bU.core=D.bs.map bU.core:=by
 unfold FnD.core at h
 injection h with h1 h2 _ _ h3 h4
 exact⟨h1,h2,h3,h4⟩
theorem Z5 (i:Nat){b b':bU}(h:b'.core=b.core):Px i b'=Px i b:=by
 unfold bU.core at h
 injection h with _ h1 _ h2 h3 h4
 unfold Px jmL
 rw[h1,h2,h3,h4]
theorem a3i {D D':FnD}(h:D'.bs.map bU.core=D.bs.map bU.core)(i:Nat):(D'.bs.getD i noB).core=(D.bs.getD i noB).core:=by
 have hi:=congrArg (λl=>l[i]?) h
 simp only[aeT]at hi
 rw[af8,af8]
 cases h1:D'.bs[i]? <;>cases h2:D.bs[i]? <;>rw[h1,h2]at hi<;>simp_all
theorem CX {D D':FnD}(h:D'.bs.map bU.core=D.bs.map bU.core):D'.bs.length=D.bs.length:=by simpa using congrArg List.length h
theorem YX {D D':FnD}(h:D'.core=D.core)(n:Int):textF D' n=textF D n:=by
 obtain⟨h1,h2,h3,h4⟩:=OZ h
 have hb:∀i,qh D' i=qh D i:=λi=>by
  unfold qh
  congr 1
  funext k
  exact Z5 k (a3i h4 k)
 unfold textF a4N tY
 rw[h1,h2,h3,hb,CX h4]
end txt
namespace Num
def nD:Nat->Int->List Int
 |0,n=>[n]
 |f+1,n=>if n<128 then[n]else(n%128+128)::nD f (n/128)
def put (n:Int):List Int:=nD 10 n
theorem mP (f:Nat)(n:Int)(h:n<128):nD f n=[n]:=by
 cases f with
 |zero=>rfl
 |succ f=>simp[nD,h]
theorem Gy (f:Nat)(n:Int)(h:128<=n):nD (f+1) n=(n%128+128)::nD f (n/128):=by rw[nD,afc (by omega)]
theorem DL:∀(f:Nat) (n:Int),n<128^(f+1)->nD (f+1) n=nD f n
 |0,n,h=>by
  have:n<128:=by simpa using h
  rw[mP _ _ this,mP _ _ this]
 |f+1,n,h=>by
  rcases agW n 128 with hn|hn
  ·rw[mP _ _ hn,mP _ _ hn]
  ·have hd:n/128<128^(f+1):=by
    rw[agr]at h
    omega
   rw[Gy _ _ hn,Gy _ _ hn,DL f _ hd]
theorem KE (n:Int)(h:n<128):put n=[n]:=mP _ _ h
theorem a4l (n:Int)(h:n<18446744073709551616)(hn:128<=n):put n=(n%128+128)::put (n/128):=by
 have h1:put n=(n%128+128)::nD 9 (n/128):=by unfold put;rw[nD,afc (by omega)]
 rw[h1]
 congr 1
 exact(DL 9 (n/128) (by show _<(128:Int)^10;omega)).symm
theorem CV:∀(f:Nat) (n:Int),1<=(nD f n).length/\(nD f n).length<=f+1
 |0,n=>by simp[nD]
 |f+1,n=>by
  have:=CV f (n/128)
  unfold nD
  split
  ·simp
  ·simp;omega
theorem put_pos (n:Int):1<=(put n).length:=(CV 10 n).1
theorem Vy:∀(f g:Nat) (n:Int),n<128^(g+1)->(nD f n).length<=g+1
 |0,g,n,_=>by simp[nD]
 |f+1,g,n,h=>by
  unfold nD
  split
  ·simp
  ·rename_i hn
   cases g with
   |zero=>simp at h;omega
   |succ g=>
    have hd:n/128<128^(g+1):=by
     rw[agr]at h
     omega
    have:=Vy f g (n/128) hd
    simp;omega
theorem UZ (n:Int)(h:n<18446744073709551616):(put n).length<=10:=Vy 10 9 n (by show _<(128:Int)^10;omega)
theorem Gz:∀(f:Nat) (n:Int),0<=n->n<128^(f+1)->∀c∈nD f n,0<=c/\c<256
 |0,n,h0,h,c,hc=>by
  simp at h
  simp[nD]at hc
  omega
 |f+1,n,h0,h,c,hc=>by
  unfold nD at hc
  split at hc
  ·simp at hc;omega
  ·have hd:n/128<128^(f+1):=by
    rw[agr]at h
    omega
   rcases aeQ.1 hc with rfl|hc
   ·omega
   ·exact Gz f (n/128) (by omega) hd c hc
theorem YS (n:Int)(h0:0<=n)(h:n<18446744073709551616):∀c∈put n,0<=c/\c<256:=
 Gz 10 n h0 (by show _<(128:Int)^11;omega)
def gB:Nat->List Int->Int×Int×Int
 |_,[]=>(0,0,24)
 |i,c::cs=>
  if (i=9/\1<c)\/(c=0/\0<i)then(0,0,12)
  else if c<128 then(c,1,0)
  else if (gB (i+1) cs).2.2=0 then(c%128+128*(gB (i+1) cs).1,(gB (i+1) cs).2.1+1,0)
  else(0,0,(gB (i+1) cs).2.2)
def get (bs:List Int)(at_:Int):Int×Int×Int:=
 if at_<0 then(0,0,2)
 else if (gB 0 (bs.drop at_.toNat)).2.2=0 then((gB 0 (bs.drop at_.toNat)).1,at_+(gB 0 (bs.drop at_.toNat)).2.1,0)
 else(0,0,(gB 0 (bs.drop at_.toNat)).2.2)
theorem a0M (i:Nat)(l:List Int):(gB i l).2.2≠0->(gB i l).1=0/\(gB i l).2.1=0:=by
 cases l with
 |nil=>simp[gB]
 |cons c cs=>
  unfold gB
  repeat' split
  all_goals simp
theorem JH:∀(l:List Int) (i:Nat),(gB i l).2.2=0\/(gB i l).2.2=12\/(gB i l).2.2=24
 |[],i=>by simp[gB]
 |c::cs,i=>by
  have:=JH cs (i+1)
  unfold gB
  repeat' split
  all_goals simp
  all_goals omega
def Df:Nat->List Int->Nat
 |0,_=>0
 |_,[]=>0
 |m+1,c::cs=>if 128<=c then Df m cs+1 else 0
theorem Yt (i:Nat)(c:Int)(cs:List Int)(h:(i=9/\1<c)\/(c=0/\0<i)):gB i (c::cs)=(0,0,12):=by rw[gB,afm h]
theorem Z9 (i:Nat)(c:Int)(cs:List Int)(h:¬((i=9/\1<c)\/(c=0/\0<i)))(h2:c<128):gB i (c::cs)=(c,1,0):=by rw[gB,afc h,afm h2]
theorem YZ (i:Nat)(c:Int)(cs:List Int)(h:¬((i=9/\1<c)\/(c=0/\0<i)))(h2:128<=c):
  gB i (c::cs)=if (gB (i+1) cs).2.2=0 then(c%128+128*(gB (i+1) cs).1,(gB (i+1) cs).2.1+1,0)else(0,0,(gB (i+1) cs).2.2):=by rw[gB,afc h,afc (by omega)]
theorem WO:∀(l:List Int) (i:Nat),i<=9->(∀c∈l,0<=c/\c<256)->(gB i l).2.2=0->
  (gB i l).2.1=(Df (10-i) l:Int)+1/\Df (10-i) l+1<=l.length/\0<=(gB i l).1/\(gB i l).1*128^i<18446744073709551616/\(0<i->0<(gB i l).1)/\
  nD (9-i) (gB i l).1=l.take (Df (10-i) l+1)
 |[],i,hi,_,h=>by simp[gB]at h
 |c::cs,i,hi,hr,h=>by
  obtain⟨m,hm⟩:∃m,10-i=m+1:=⟨9-i,by omega⟩
  have hc:=hr c (by simp)
  have hm9:9-i=m:=by omega
  rw[hm,hm9]
  by_cases h1:(i=9/\1<c)\/(c=0/\0<i)
  ·unfold gB at h
   rw[afm h1]at h
   simp at h
  ·by_cases h2:c<128
   ·have hg:gB i (c::cs)=(c,1,0):=by unfold gB;rw[afc h1,afm h2]
    have hh:Df (m+1) (c::cs)=0:=by rw[Df,afc (by omega)]
    rw[hg,hh]
    refine⟨by simp,by simp,by simpa using hc.1,?_,by simp;omega,by simpa using mP m c h2⟩
    simp only
    by_cases hi9:i=9
    ·subst hi9
     have:c<=1:=by omega
     have hp:(128:Int)^9=9223372036854775808:=by decide
     rw[hp]
     omega
    ·have hp:(128:Int)^i<=128^8:=by
      have:(128:Int)^8=128^i*128^(8-i):=by rw[<-Int.pow_add];congr 1;omega
      rw[this]
      have h1p:(1:Int)<=128^(8-i):=(agY (by omega):(0:Int)<128^(8-i))
      have h0p:(0:Int)<=128^i:=Int.le_of_lt (agY (by omega))
      calc (128:Int)^i=128^i*1:=by simp
       _<=128^i*128^(8-i):=ahg h1p h0p
     have hp8:(128:Int)^8=72057594037927936:=by decide
     have h0p:(0:Int)<=128^i:=Int.le_of_lt (agY (by omega))
     have:c*128^i<=127*128^i:=aga (by omega) h0p
     omega
   ·have hi9:i+1<=9:=by omega
    have hm':10-(i+1)=m:=by omega
    have hh:Df (m+1) (c::cs)=Df m cs+1:=by rw[Df,afm (by omega)]
    by_cases h3:(gB (i+1) cs).2.2=0
    ·have hg:gB i (c::cs)=(c%128+128*(gB (i+1) cs).1,(gB (i+1) cs).2.1+1,0):=by
      rw[gB,afc h1,afc h2,afm h3]
     obtain⟨a1,a2,a3,a4,a5,a6⟩:=WO cs (i+1) hi9 (λx hx=>hr x (by simp[hx])) h3
     rw[hm']at a1 a2 a6
     have hm1:m=(9-(i+1))+1:=by omega
     have a5':=a5 (by omega)
     rw[hg,hh]
     generalize (gB (i+1) cs).1=x at *
     refine⟨by simp[a1],by simp;omega,by simp only;omega,?_,by simp only;omega,?_⟩
     ·simp only
      have hp:(0:Int)<128^i:=agY (by omega)
      rw[agr]at a4
      by_cases hi8:i=8
      ·subst hi8
       have hp8:(128:Int)^8=72057594037927936:=by decide
       rw[hp8]at a4 |-
       omega
      ·have e1:(18446744073709551616:Int)=128^(i+1)*(2*128^(8-i)):=by
        have:(128:Int)^(i+1)*(2*128^(8-i))=2*(128^(i+1)*128^(8-i)):=by
         rw[Int.mul_left_comm]
        rw[this,<-Int.pow_add]
        have:i+1+(8-i)=9:=by omega
        rw[this]
        decide
       rw[e1,agr]at a4
       have a4':x<2*128^(8-i):=by
        have:x*(128^i*128)=(128^i*128)*x:=ahf _ _
        rw[this]at a4
        exact Int.lt_of_mul_lt_mul_left a4 (by omega)
       rw[e1,agr]
       have h4:(c%128+128*x)*128^i<(128*(x+1))*128^i:=Int.mul_lt_mul_of_pos_right (by omega) hp
       have h5:(128*(x+1))*128^i<=(128*(2*128^(8-i)))*128^i:=aga (by omega) (by omega)
       have h6:(128*(2*(128:Int)^(8-i)))*128^i=128^i*128*(2*128^(8-i)):=by
        rw[ahf (128*(2*(128:Int)^(8-i))) (128^i),Int.mul_assoc]
       omega
     ·simp only
      rw[hm1,nD,afc (by omega),ahh,<-hm1]
      have e1:(c%128+128*x)%128+128=c:=by omega
      have e2:(c%128+128*x)/128=x:=by omega
      rw[e1,e2,a6]
    ·unfold gB at h
     rw[afc h1,afc h2,afc h3]at h
     exact absurd h h3
theorem Lm:∀(k i:Nat) (n:Int) (rest:List Int),i+k=9->0<=n->n*128^i<18446744073709551616->(0<i->0<n)->
  gB i (nD k n++rest)=(n,((nD k n).length:Int),0)
 |0,i,n,rest,hi,h0,hn,hp=>by
  have:i=9:=by omega
  subst this
  have hp9:(128:Int)^9=9223372036854775808:=by decide
  rw[hp9]at hn
  have h1:=hp (by omega)
  have:n=1:=by omega
  subst this
  simp[nD,gB]
 |k+1,i,n,rest,hi,h0,hn,hp=>by
  unfold nD
  by_cases h:n<128
  ·rw[afm h]
   have h1:¬((i=9/\1<n)\/(n=0/\0<i)):=by omega
   simp[gB,h,h1]
  ·rw[afc h]
   have h1:¬((i=9/\1<n%128+128)\/(n%128+128=0/\0<i)):=by omega
   have h2:¬(n%128+128<128):=by omega
   have hpow:(0:Int)<128^i:=agY (by omega)
   have ih:=Lm k (i+1) (n/128) rest (by omega) (by omega) (by
    rw[agr]
    have h3:(n/128*128)*128^i<=n*128^i:=aga (by omega) (by omega)
    have h4:n/128*(128^i*128)=(n/128*128)*128^i:=by rw[ahf (128^i) 128,Int.mul_assoc]
    omega) (by omega)
   rw[ag9,gB,afc h1,afc h2,ih]
   simp
   omega
theorem a2T (n:Int)(h:n<18446744073709551616):put n=nD 9 n:=DL 9 n (by show _<(128:Int)^10;omega)
theorem a2m (n:Int)(rest:List Int)(h0:0<=n)(h:n<18446744073709551616):gB 0 (put n++rest)=(n,((put n).length:Int),0):=by
 rw[a2T n h]
 exact Lm 9 0 n rest rfl h0 (by simpa using h) (by omega)
theorem get_put (front rest:List Int)(n:Int)(h0:0<=n)(h:n<18446744073709551616):get (front++(put n++rest)) front.length=(n,(front.length:Int)+(put n).length,0):=by
 unfold get
 rw[afc (by omega)]
 simp[a2m n rest h0 h]
def fold (x:Int):Int:=if 0<=x then 2*x else -2*x-1
def back (n:Int):Int:=if n%2=0 then n/2 else -(n/2)-1
theorem wQ (x:Int)(h:-9223372036854775808<=x)(g:x<=9223372036854775807):0<=fold x/\fold x<18446744073709551616:=by
 unfold fold
 split<;>omega
theorem YB (x:Int):back (fold x)=x:=by
 unfold back fold
 split<;>split<;>omega
end Num
namespace enc
open Go.RowKit Am
open txt (jE oU qN)
def PlV.n (p:PlV):Int:=6*p.l+p.f+(if p.d then 3 else 0)
def PlV.b (p:PlV):List Int:=Num.put p.n
def OpV.b:OpV->List Int
 | .k n=>Num.put 1++Num.put (Num.fold n)
 | .p m q=>Num.put (kdM m)++q.b
def RvV.b:RvV->List Int
 | .use a=>Num.put 1++a.b
 | .bin o a b=>Num.put 2++(Num.put o++(a.b++b.b))
 | .two a b=>Num.put 3++(a.b++b.b)
 | .ref o q=>Num.put 4++(Num.put o++q.b)
 | .raw q=>Num.put 5++q.b
def StV.b:StV->List Int
 | .asg q r=>Num.put 1++(q.b++r.b)
 | .one m a=>Num.put (kdO m)++a.b
 | .fresh l=>Num.put 3++Num.put l
def wX (l:List OpV):List Int:=l.flatMap OpV.b
def JmV.b (ops:List OpV):JmV->List Int
 | .go n=>Num.put 1++Num.put n
 | .br a n e=>Num.put 2++(a.b++(Num.put n++Num.put e))
 | .ret=>Num.put 3
 | .abort=>Num.put 5
 | .call f q n=>Num.put 4++(Num.put f++(Num.put (ops.length:Nat)++(wX ops++(q.b++Num.put n))))
structure BlV where
 ss:List StV
 j:JmV
 ops:List OpV
structure BlV.ok (v:BlV):Prop where
 n:v.ss.length<=24
 s:∀s∈v.ss,s.ok
 j:v.j.ok v.ops
def BlV.core (v:BlV):bU:=⟨qj,v.j.pre,qj,v.j.post,v.ss.map StV.c,v.ops.map OpV.c⟩
def Kz (l:List StV):List Int:=l.flatMap StV.b
def BlV.b (v:BlV):List Int:=Num.put (v.ss.length:Nat)++(Kz v.ss++v.j.b v.ops)
structure FnV where
 p:Int
 u:Bool
 ls:List (Nat×Nat)
 bs:List BlV
structure FnV.ok (v:FnV):Prop where
 p:0<=v.p/\v.p<=8
 l0:0<v.ls.length
 l1:v.ls.length<=16
 ls:∀t∈v.ls,t∈jE
 b0:0<v.bs.length
 b1:v.bs.length<=24
 bs:∀b∈v.bs,b.ok
def FnV.core (v:FnV):FnD:=⟨v.p,v.u,qj,qj,v.ls.map oU,v.bs.map BlV.core,⟨qj,[]⟩⟩
def tyN (p:Nat×Nat):Int:=if p.2=0 then(p.1:Int)-1 else 2*((p.1:Int)-2)+((p.2:Int)-1)
def DT (l:List (Nat×Nat)):List Int:=l.flatMap λt=>Num.put (tyN t)
def FM (l:List BlV):List Int:=l.flatMap BlV.b
def uN (u:Bool):Int:=if u then 1 else 0
def FnV.b (v:FnV):List Int:=Num.put v.p++(Num.put (uN v.u)++(Num.put (v.ls.length:Nat)++(DT v.ls++(Num.put (v.bs.length:Nat)++FM v.bs))))
def J3 (l:List FnV):List Int:=l.flatMap FnV.b
def pgB (l:List FnV):List Int:=Num.put (l.length:Nat)++J3 l
theorem xu {α β:Type}{P:α->Prop}{f:α->β}:∀{l:List β},(∀x∈l,∃a,P a/\x=f a)->∃zs:List α,(∀a∈zs,P a)/\l=zs.map f
 |[],_=>⟨[],λa ha=>absurd ha aeZ,rfl⟩
 |x::l,h=>by
  obtain⟨a,ha,e⟩:=h x afh
  obtain⟨zs,h2,e2⟩:=xu (l:=l) λy hy=>h y (afd _ hy)
  refine⟨a::zs,λy hy=>?_,by rw[e,e2];rfl⟩
  rcases aeQ.1 hy with rfl|hy
  ·exact ha
  ·exact h2 y hy
theorem a7W {w:World}{b:bU}(h:jV w b)(hn:b.st.length<=24)(hs:∀s∈b.st,dK.val s=true)(hj:okJ b.pre b.ops b.post=true):∃v:BlV,v.ok/\b.core=v.core:=by
 obtain⟨ss,ks,es⟩:=xu (P:=StV.ok) (f:=StV.c) (l:=b.st) λx hx=>a7T (h.skd x hx) (hs x hx)
 obtain⟨j,ops,kj,e1,e2,e3⟩:=VE h.rJ h.mZ h.okd hj
 refine⟨⟨ss,j,ops⟩,⟨by rw[es,af4]at hn;exact hn,ks,kj⟩,?_⟩
 unfold bU.core BlV.core
 rw[e1,e2,e3,es]
theorem a5D {w:World}{v:Value}{D:FnD}(h:aZ w v D)(hc:check.iY D=0):∃V:FnV,V.ok/\D.core=V.core:=by
 have k:=txt.kX hc
 obtain⟨ls,kl,el⟩:=xu (P:=λp=>p∈jE) (f:=oU) (l:=D.ls) λt ht=>qN (h.lkd t ht) (k.ty t ht)
 obtain⟨bs,kb,eb⟩:=xu (P:=BlV.ok) (f:=BlV.core) (l:=D.bs.map bU.core) λx hx=>by
  obtain⟨b,hb,rfl⟩:=afo.1 hx
  exact a7W (h.blk b hb) (k.s b hb) (k.st b hb) (k.jm b hb)
 have n1:D.ls.length=ls.length:=by rw[el,af4]
 have n2:D.bs.length=bs.length:=by have:=congrArg List.length eb;rwa[af4,af4]at this
 refine⟨⟨D.p,D.u,ls,bs⟩,⟨k.p,by have:=k.l0;show 0<ls.length;omega,by have:=k.l1;show ls.length<=16;omega,kl,by have:=k.b0;show 0<bs.length;omega,by have:=k.b1;show bs.length<=24;omega,kb⟩,?_⟩
 unfold FnD.core FnV.core
 rw[el,eb]
theorem dw (n:Int):(Num.put n).length<=11:=(Num.CV 10 n).2
theorem PlV.len (p:PlV):p.b.length<=11:=dw _
theorem OpV.len (a:OpV):a.b.length<=22:=by
 cases a with
 |k n=>have:=dw 1;have:=dw (Num.fold n);simp only[OpV.b,aeL];omega
 |p m q=>have:=dw (kdM m);have:=q.len;simp only[OpV.b,aeL];omega
theorem oP {α:Type}(f:α->List Int)(k:Nat):∀l:List α,(∀x∈l,(f x).length<=k)->(l.flatMap f).length<=k*l.length
 |[],_=>by simp
 |x::l,h=>by
  have h1:=oP f k l λy hy=>h y (afd _ hy)
  have h2:=h x afh
  rw[ag0,aeL,afi,ahu]
  omega
theorem a7Z {ops:List OpV}(h:ops.length<=8):(wX ops).length<=176:=by
 have:=oP OpV.b 22 ops λx _=>x.len
 unfold wX
 omega
theorem Xa {ls:List (Nat×Nat)}(h:ls.length<=16):(DT ls).length<=176:=by
 have:=oP (λt=>Num.put (tyN t)) 11 ls λx _=>dw _
 unfold DT
 omega
theorem vg {α:Type}(f:α->List Int){l:List α}{i:Nat}{x:α}(h:l[i]? =some x):(l.take (i+1)).flatMap f=(l.take i).flatMap f++f x:=by
 rw[ag6,h,ah2]
 simp
def At (xs:List Int)(i:Nat)(l:List Int):Prop:=∃a b,xs=a++(l++b)/\a.length=i
theorem At.left {xs a b:List Int}{i:Nat}(h:At xs i (a++b)):At xs i a:=by
 obtain⟨f,r,e,n⟩:=h
 exact⟨f,b++r,by rw[e,af9],n⟩
theorem At.right {xs a b:List Int}{i:Nat}(h:At xs i (a++b)):At xs (i+a.length) b:=by
 obtain⟨f,r,e,n⟩:=h
 exact⟨f++a,r,by rw[e];simp[af9],by rw[aeL,n]⟩
theorem At.get {xs:List Int}{i:Nat}{n:Int}(h:At xs i (Num.put n))(h0:0<=n)(h1:n<18446744073709551616):Num.get xs (i:Nat)=(n,((i+(Num.put n).length:Nat):Int),0):=by
 obtain⟨f,r,e,k⟩:=h
 rw[e,<-k,Num.get_put f r n h0 h1]
 simp
theorem At.le {xs l:List Int}{i:Nat}(h:At xs i l):i+l.length<=xs.length:=by
 obtain⟨f,r,e,k⟩:=h
 rw[e,<-k]
 simp
theorem At.flat {α:Type}{f:α->List Int}{l:List α}{xs:List Int}{i j:Nat}{x:α}(h:At xs i (l.flatMap f))(hx:l[j]? =some x):At xs (i+((l.take j).flatMap f).length) (f x):=by
 have hj:=(aeU.1 hx).1
 have e:l=l.take j++(x::l.drop (j+1)):=by
  have h1:=(agc j l).symm
  have h2:l.drop j=x::l.drop (j+1):=by rw[List.drop_eq_getElem_cons hj];congr 1;exact(aeU.1 hx).2
  rw[h2]at h1
  exact h1
 have h2:l.flatMap f=(l.take j).flatMap f++(f x++(l.drop (j+1)).flatMap f):=by
  conv=>lhs;rw[e]
  rw[ah2,ag0]
 rw[h2]at h
 exact h.right.left
theorem PlV.parts {p:PlV}(h:p.ok):0<=p.n/\p.n<=95/\p.n/6=p.l/\p.n%3=p.f/\decide (p.n%6>=3)=p.d:=by
 obtain⟨l,d,f⟩:=p
 obtain⟨h0,h1,h2,h3⟩:=h
 simp only[PlV.n]at *
 cases d
 ·refine⟨by simp;omega,by simp;omega,by simp;omega,by simp;omega,?_⟩
  simp
  omega
 ·refine⟨by simp;omega,by simp;omega,by simp;omega,by simp;omega,?_⟩
  simp
  omega
open txt (jE)
def Byt (l:List Int):Prop:=∀c∈l,0<=c/\c<256
theorem Byt.app {a b:List Int}(ha:Byt a)(hb:Byt b):Byt (a++b):=λc hc=>(afl.1 hc).elim (ha c) (hb c)
theorem Byt.put {n:Int}(h0:0<=n)(h1:n<18446744073709551616):Byt (Num.put n):=Num.YS n h0 h1
theorem Byt.flat {α:Type}{f:α->List Int}{l:List α}(h:∀x∈l,Byt (f x)):Byt (l.flatMap f):=λc hc=>by
 obtain⟨x,hx,hcx⟩:=agK.1 hc
 exact h x hx c hcx
theorem PlV.byt {p:PlV}(h:p.ok):Byt p.b:=.put (PlV.parts h).1 (by have:=(PlV.parts h).2.1;omega)
theorem OpV.byt {a:OpV}(h:a.ok):Byt a.b:=by
 cases a with
 |k n=>exact .app (.put (by decide) (by decide)) (.put (by have h:-9223372036854775808<=n/\n<=9223372036854775807:=h;unfold Num.fold;split<;>omega) (by have h:-9223372036854775808<=n/\n<=9223372036854775807:=h;unfold Num.fold;split<;>omega))
 |p m q=>exact .app (.put (by cases m<;>decide) (by cases m<;>decide)) (PlV.byt h)
theorem RvV.byt {r:RvV}(h:r.ok):Byt r.b:=by
 cases r with
 |use a=>exact .app (.put (by decide) (by decide)) (OpV.byt h)
 |bin o a b=>
  obtain⟨h1,h2,h3,h4⟩:=h
  exact .app (.put (by decide) (by decide)) (.app (.put (by omega) (by omega)) (.app (OpV.byt h3) (OpV.byt h4)))
 |two a b=>exact .app (.put (by decide) (by decide)) (.app (OpV.byt h.1) (OpV.byt h.2))
 |ref o q=>
  obtain⟨h1,h2,h3⟩:=h
  exact .app (.put (by decide) (by decide)) (.app (.put (by omega) (by omega)) (PlV.byt h3))
 |raw q=>exact .app (.put (by decide) (by decide)) (PlV.byt h)
theorem StV.byt {s:StV}(h:s.ok):Byt s.b:=by
 cases s with
 |asg q r=>exact .app (.put (by decide) (by decide)) (.app (PlV.byt h.1) (RvV.byt h.2))
 |one m a=>exact .app (.put (by cases m<;>decide) (by cases m<;>decide)) (OpV.byt h)
 |fresh l=>
  obtain⟨h1,h2⟩:=h
  exact .app (.put (by decide) (by decide)) (.put h1 (by omega))
theorem JmV.byt {j:JmV}{ops:List OpV}(h:j.ok ops):Byt (j.b ops):=by
 cases j with
 |go n=>
  obtain⟨h1,h2⟩:=h
  exact .app (.put (by decide) (by decide)) (.put h1.1 (by omega))
 |br a n e=>
  obtain⟨h1,h2,h3,h4⟩:=h
  exact .app (.put (by decide) (by decide)) (.app (OpV.byt h3) (.app (.put h1.1 (by omega)) (.put h2.1 (by omega))))
 |ret=>exact .put (by decide) (by decide)
 |abort=>exact .put (by decide) (by decide)
 |call f q n=>
  obtain⟨h1,h2,h3,h4,h5⟩:=h
  exact .app (.put (by decide) (by decide)) (.app (.put h1.1 (by omega)) (.app (.put (by omega) (by omega)) (.app (.flat λa ha=>OpV.byt (h5 a ha)) (.app (PlV.byt h3) (.put h2.1 (by omega))))))
theorem BlV.byt {v:BlV}(h:v.ok):Byt v.b:=.app (.put (by omega) (by have:=h.n;omega)) (.app (.flat λs hs=>StV.byt (h.s s hs)) (JmV.byt h.j))
theorem aaq {t:Nat×Nat}(h:t∈jE):Byt (Num.put (tyN t)):=by
 unfold jE at h
 simp only[aeQ,aeZ,afj]at h
 rcases h with rfl|rfl|rfl|rfl|rfl|rfl|rfl|rfl<;>exact .put (by decide) (by decide)
theorem FnV.byt {v:FnV}(h:v.ok):Byt v.b:=
 .app (.put h.p.1 (by have:=h.p.2;omega)) (.app (.put (by unfold uN;split<;>decide) (by unfold uN;split<;>decide)) (.app (.put (by omega) (by have:=h.l1;omega)) (.app (.flat λt ht=>aaq (h.ls t ht)) (.app (.put (by omega) (by have:=h.b1;omega)) (.flat λb hb=>BlV.byt (h.bs b hb))))))
theorem VR {Vs:List FnV}(h:∀V∈Vs,V.ok)(h8:Vs.length<=8):∀c∈pgB Vs,0<=c/\c<256:=
 Byt.app (.put (by omega) (by omega)) (.flat λV hV=>FnV.byt (h V hV))
