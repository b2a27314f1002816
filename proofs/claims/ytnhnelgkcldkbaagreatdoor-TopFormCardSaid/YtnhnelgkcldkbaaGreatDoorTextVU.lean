/- The library's functions that write numbers, as oracles of the machine. -/
import Derived.Test.YtnhnelgkcldkbaaGreatDoorShelfN
import Derived.Lib.AppendIntMem
import Derived.Test.YtnhnelgkcldkbaaGreatDoorRows
import Derived.ProofKit
import Derived.LaidMore
import Derived.ShutString
import Derived.Stop.Joined
import Derived.Test.YtnhnelgkcldkbaaGreatDoorDigits
set_option linter.all false
noncomputable section
open Int renaming ofNat_eq_natCast → aia
namespace Go.Proofs.YtnhnelgkcldkbaaGreatDoor
namespace Am
open Go.RowKit
structure iq (w:World):Prop where
 size:3<=w.heap.size
 tab:Lib.TabIs Tryz.prog w "internal/strconv.uint64pow10" .u64 Lib.pow10Tab
theorem cell0 {w w0:World}(h:∀b,b<3->w.heap[b]? =w0.heap[b]?)(b i:Nat)(hb:b<3):w.cell? ⟨b,i,none⟩=w0.cell? ⟨b,i,none⟩:=by
 simp only[World.cell?,h b hb]
theorem iq.here {w w0:World}(k:iq w0)(h:∀b,b<3->w.heap[b]? =w0.heap[b]?):Lib.TabIs Tryz.prog w "internal/strconv.uint64pow10" .u64 Lib.pow10Tab:=by
 have e:=k.tab
 unfold Lib.TabIs World.var? at *
 rw[show Tryz.prog.globalNamed "internal/strconv.uint64pow10" =some 2 by kernel_rfl,agF]at *
 rw[h _ (by decide)]
 exact e
theorem Np:∀f u acc,u<10^f->0<f->PZ f u acc=Lib.decDigits u++acc
 |0,_,_,_,h=>by omega
 |f+1,u,acc,h,_=>by
  rw[PZ,Lib.decDigits]
  by_cases hu:u<10
  ·rw[dif_pos hu,show Nat.blt u 10=true by simpa[afM]using hu]
   rfl
  ·rw[dif_neg hu,show Nat.blt u 10=false from Bool.eq_false_iff.2 λh=>hu (by simpa[afM]using h)]
   simp only[aeS]
   have h1:u/10<10^f:=by rw[Nat.pow_succ]at h;omega
   have hf:0<f:=by
    rcases agN f with rfl|hf
    ·simp at h1;omega
    ·exact hf
   rw[Np f (u/10) _ h1 hf]
   simp
abbrev XV (n:Int):List UInt8:=gy n
theorem yj (n:Int)(h0:-9223372036854775808<=n)(h1:n<=9223372036854775807):XV n=Lib.itoa n:=by
 unfold XV gy Lib.itoa
 cases n with
 |ofNat u=>
  have hu:u<10^20:=by simp only[aia]at h1;omega
  simp only[Np 20 u [] hu (by decide),aft]
  rw[afc (by simp only[aia];omega)]
  rfl
 |negSucc u=>
  have hu:u+1<10^20:=by omega
  simp only[Np 20 (u+1) [] hu (by decide),aft]
  rw[afm (by omega)]
  rfl
def inI (n:Int):Bool:=Int.ble' (-9223372036854775808) n&&Int.ble' n 9223372036854775807
theorem VD {n:Int}(h:inI n=true):-9223372036854775808<=n/\n<=9223372036854775807:=by
 unfold inI at h
 simpa[Int.ble'_eq_true]using h
def a8C (args:List A):Option V:=match args with
 |[.s (.int .i64 n)]=>bif inI n then some (.a (.s (.str (XV n))))else none
 |_=>none
def fmtG (args:List A):Option V:=match args with
 |[.s (.int .i64 n),.s (.int .i64 b)]=>bif inI n&&b==10 then some (.a (.s (.str (XV n))))else none
 |_=>none
abbrev base0 (w0:World){K:Know}{rho:Nat->Int}{sig:Nat->List UInt8}(ok:aC K rho sig):Base:=Base.known K ok 3 w0
section
variable {w0:World} {K:Know} {rho:Nat->Int} {sig:Nat->List UInt8} (ok:aC K rho sig)
def a8V:aU:=uF 68 a8C
def adf:aU:=uF 175 fmtG
def numO:aU:=λf a h fl=>orR (a8V f a h fl) (adf f a h fl)
theorem H6 [Base]{r:Ren}{x:A}{vs:List Value}(h:au (VA r) [x] vs):∃v,vs=[v]/\VA r x v:=by
 match vs,h with
 |[v],h=>exact⟨v,rfl,h.1⟩
theorem Vb (k:iq w0):@Sound (base0 w0 ok) Tryz.prog a8V:=by
 letI:Base:=base0 w0 ok
 refine kF ⟨_,Tryz.func68,by kernel_rfl,by kernel_rfl⟩ λargs v hg r vs ha w hw=>?_
 unfold a8C at hg
 split at hg
 ·rename_i n
  obtain⟨u,rfl,hu⟩:=H6 ha
  cases hu
  cases hi:inI n with
  |false=>rw[hi]at hg;cases hg
  |true=>
   rw[hi]at hg
   cases hg
   obtain⟨h0,h1⟩:=VD hi
   refine(Tryz.strconv_Itoa n h0 h1 w (k.here hw)).mono λe w' ⟨e1,n',os,e2⟩=>⟨_,e1,?_,?_⟩
   ·show _=_
    rw[yj n h0 h1]
   ·rw[e2];exact Lib.below_grow _ _ (aeM _) _ _
 ·cases hg
theorem BQ [Base]{r:Ren}{x y:A}{vs:List Value}(h:au (VA r) [x,y] vs):∃v u,vs=[v,u]/\VA r x v/\VA r y u:=by
 match vs,h with
 |[v,u],h=>exact⟨v,u,rfl,h.1,h.2.1⟩
theorem a0j (k:iq w0):@Sound (base0 w0 ok) Tryz.prog adf:=by
 letI:Base:=base0 w0 ok
 refine kF ⟨_,Tryz.func175,by kernel_rfl,by kernel_rfl⟩ λargs v hg r vs ha w hw=>?_
 unfold fmtG at hg
 split at hg
 ·rename_i n b
  obtain⟨u,u',rfl,hu,hu'⟩:=BQ ha
  cases hu
  cases hu'
  cases hi:(inI n&&b==10)with
  |false=>rw[hi]at hg;cases hg
  |true=>
   rw[hi]at hg
   cases hg
   simp only[aeI,ag4]at hi
   obtain⟨hi,rfl⟩:=hi
   obtain⟨h0,h1⟩:=VD hi
   refine(Tryz.strconv_FormatInt_10 n h0 h1 w (k.here hw)).mono λe w' ⟨e1,n',os,e2⟩=>⟨_,e1,?_,?_⟩
   ·show _=_
    rw[yj n h0 h1]
   ·rw[e2];exact Lib.below_grow _ _ (aeM _) _ _
 ·cases hg
theorem LY (k:iq w0):@Sound (base0 w0 ok) Tryz.prog numO:=@fG (base0 w0 ok) _ _ _ (Vb ok k) (a0j ok k)
theorem aee:a4P Tryz.prog (pJ Tryz.prog):=by
 have hall:(Tryz.prog.funcs.toList.all λF=>!(F.name== "runtime.NumGoroutine"))=true:=by kernel_rfl
 intro f F h
 refine⟨h,?_⟩
 have hm:F∈Tryz.prog.funcs.toList:=by
  have h:Tryz.prog.funcs[f]? =some F:=h
  rw[<-afx]at h
  exact aeY h
 simpa using aeV.1 hall F hm
theorem mixed:Tryz.prog.follows .mixedOrders=true:=by kernel_rfl
theorem Aq {lib:aU}(hl:@Sound (base0 w0 ok) Tryz.prog lib)(n d:Nat):@Sound (base0 w0 ok) Tryz.prog (@runs K (oq Tryz.prog) (pJ Tryz.prog) lib n d):=
 @VU (base0 w0 ok) _ _ (@yJ (base0 w0 ok) Tryz.prog) _ aee _ hl mixed n d
end
open Go.ChangeShapes Go.WideShapes Go.ChangeAt
theorem own:ownKnob Tryz.prog.godebug=none:=by kernel_rfl
theorem laidOut:laidOutB Tryz.prog=true:=by kernel_rfl
def Reads (P:Program)(w:World)(n:String)(d:DataW Unit):Prop:=
 ∃g t cs fuel p,P.globalNamed n=some g/\(P.globals[g]?).map (·.type)=some t/\w.var? P n=some cs/\DataW.trod (λ_=>()) P w 0 (λ_=>true) false fuel t cs.toList=some (d,p)
theorem Ri {P:Program}{w:World}:∀{l:List (String×DataW Unit)} {ps:List MemPlace},DataW.LaidVars P w l ps->∀n d,(n,d)∈l->Reads P w n d
 |[],_,_,_,_,hm=>by cases hm
 |(_,_)::r,ps,h,n,d,hm=>by
  obtain⟨g,t,cs,fuel,p,q,h1,h2,h3,h4,h5,_⟩:=h
  rcases aeQ.1 hm with e|e
  ·cases e
   exact⟨g,t,cs,fuel,p,h1,h2,h3,h4⟩
  ·exact Ri h5 n d e
theorem KZ {P:Program}{w:World}{l:List (String×DataW Unit)}(hh:(l.all λx=>x.2.handleName?.isNone)=true)(h:laidMetH P l w){n:String}{d:DataW Unit}(hm:(n,d)∈l):Reads P w n d:=by
 rw[MakeChecks.laidMetH_plain _ _ _ hh]at h
 obtain⟨_,hv,_⟩:=h
 exact Ri hv n d hm
theorem a4G {P:Program}{w:World}{n:String}{g:Nat}{cs:Array Value}(hg:P.globalNamed n=some g)(h:w.var? P n=some cs):g<w.heap.size:=by
 simp only[World.var?,hg,agF]at h
 split at h
 ·rename_i he
  exact(aeN.1 he).1
 ·cases h
theorem adK:Tryz.prog.globalNamed "internal/strconv.uint64pow10" =some 2:=by kernel_rfl
theorem ado:Tryz.prog.globalNamed "math/bits.deBruijn64tab" =some 5:=by kernel_rfl
theorem abK {w:World}{l:List (String×DataW Unit)}(hh:(l.all λx=>x.2.handleName?.isNone)=true)
  (h2:("internal/strconv.uint64pow10",Rows.laid_internal_strconv_uint64pow10)∈l) (h3:("math/bits.deBruijn64tab",Rows.laid_math_bits_deBruijn64tab)∈l) (h:laidMetH Tryz.prog l w):iq w:=by
 obtain⟨g',t',cs,fuel,p,k1,k2,k3,k4⟩:=KZ hh h h3
 have:=a4G ado k3
 refine⟨by omega,?_⟩
 obtain⟨g',t',cs,fuel,p,k1,k2,k3,k4⟩:=KZ hh h h2
 obtain rfl:=afE (adK.symm.trans k1)
 obtain rfl:=afE ((show(Tryz.prog.globals[2]?).map (·.type)=some 285 by kernel_rfl).symm.trans k2)
 have e:(Rows.laid_internal_strconv_uint64pow10:DataW Unit)=Lib.tabData .u64 Lib.pow10Tab:=by kernel_rfl
 rw[e]at k4
 have hc:=Lib.cells_of_tab Tryz.underlying285 Tryz.underlying93 (by kernel_rfl) (by kernel_rfl) k4
 unfold Lib.TabIs
 rw[k3,<-hc]
def F5 (k:Option Kd):Bool:=match k with |some (.i .i64)=>true|_=>false
def a3B (ks:List Kd)(args:List A):Option V:=match args with
 |[.s (.xi .i64 i)]=>bif F5 (nth ks i)then some (.a (.s (.xs [256+i])))else none
 |_=>none
def a9v (ks:List Kd)(args:List A):Option V:=match args with
 |[.s (.xi .i64 i),.s (.int .i64 b)]=>bif F5 (nth ks i)&&b==10 then some (.a (.s (.xs [256+i])))else none
 |_=>none
def a1P (ks:List Kd):aU:=uF 68 (a3B ks)
def a8H (ks:List Kd):aU:=uF 175 (a9v ks)
theorem I9 {ks:List Kd}{i:Nat}(h:F5 (nth ks i)=true):nth ks i=some (.i .i64):=by
 unfold F5 at h
 split at h
 ·assumption
 ·cases h
section
variable {w0:World} {K:Know} {rho:Nat->Int} {sig:Nat->List UInt8} (ok:aC K rho sig) {ks:List Kd}
theorem Q9 (d:Dec ks rho sig)(k:iq w0):@Sound (base0 w0 ok) Tryz.prog (a1P ks):=by
 letI:Base:=base0 w0 ok
 refine kF ⟨_,Tryz.func68,by kernel_rfl,by kernel_rfl⟩ λargs v hg r vs ha w hw=>?_
 unfold a3B at hg
 split at hg
 ·rename_i i
  obtain⟨u,rfl,hu⟩:=H6 ha
  cases hu
  cases hi:F5 (nth ks i)<;>rw[hi]at hg<;>cases hg
  obtain⟨e,h0,h1⟩:=d i (I9 hi)
  refine(Tryz.strconv_Itoa (rho i) h0 h1 w (k.here hw)).mono λe' w' ⟨e1,n',os,e2⟩=>⟨_,e1,?_,?_⟩
  ·show _=_
   rw[iM,show Base.sig i=gy (rho i)from e]
   exact congrArg (λl:List UInt8=>Value.string ⟨l.toArray⟩) (yj (rho i) h0 h1).symm
  ·rw[e2];exact Lib.below_grow _ _ (aeM _) _ _
 ·cases hg
theorem TS (d:Dec ks rho sig)(k:iq w0):@Sound (base0 w0 ok) Tryz.prog (a8H ks):=by
 letI:Base:=base0 w0 ok
 refine kF ⟨_,Tryz.func175,by kernel_rfl,by kernel_rfl⟩ λargs v hg r vs ha w hw=>?_
 unfold a9v at hg
 split at hg
 ·rename_i i b
  obtain⟨u,u',rfl,hu,hu'⟩:=BQ ha
  cases hu
  cases hu'
  cases hi:(F5 (nth ks i)&&b==10)<;>rw[hi]at hg<;>cases hg
  simp only[aeI,ag4]at hi
  obtain⟨hi,rfl⟩:=hi
  obtain⟨e,h0,h1⟩:=d i (I9 hi)
  refine(Tryz.strconv_FormatInt_10 (rho i) h0 h1 w (k.here hw)).mono λe' w' ⟨e1,n',os,e2⟩=>⟨_,e1,?_,?_⟩
  ·show _=_
   rw[iM,show Base.sig i=gy (rho i)from e]
   exact congrArg (λl:List UInt8=>Value.string ⟨l.toArray⟩) (yj (rho i) h0 h1).symm
  ·rw[e2];exact Lib.below_grow _ _ (aeM _) _ _
 ·cases hg
def a9y (ks:List Kd):aU:=λf a h fl=>orR (numO f a h fl) (orR (a1P ks f a h fl) (a8H ks f a h fl))
theorem Vj (d:Dec ks rho sig)(k:iq w0):@Sound (base0 w0 ok) Tryz.prog (a9y ks):=
 @fG (base0 w0 ok) _ _ _ (LY ok k) (@fG (base0 w0 ok) _ _ _ (Q9 ok d k) (TS ok d k))
end
def jF (l:Int)(d:Bool)(f:Int):List UInt8:=(bif d then[42]else[])++(120::gy l)++(if f=1 then[46,49]else if f=2 then[46,50]else[])
def triples:List (Nat×Bool×Nat):=(List.range 16).flatMap λl=>[false,true].flatMap λd=>(List.range 3).map λf=>(l,d,f)
theorem Qs:∀(l:Nat) (d:Bool) (f:Nat),l<16->f<3->(l,d,f)∈triples:=λl d f hl hf=>by
 simp only[triples,agK,afo,afs]
 exact⟨l,hl,d,by cases d<;>simp,f,hf,rfl⟩
abbrev a9P (f:FuncId)(t:Nat×Bool×Nat):R:=@runs Know.nought (oq Tryz.prog) (pJ Tryz.prog) numO 10 10 f [.g [.int .i64 t.1,.bool t.2.1,.int .u8 t.2.2]] ⟨[],0⟩ 0
def zf (t:Nat×Bool×Nat):Bool:=
 wZ (.t [.s (.str (jF t.1 t.2.1 t.2.2)),.s (.int .i64 0)]) (a9P 23 t)&&
 true&&Nat.ble (jF t.1 t.2.1 t.2.2).length 21
theorem Uj:triples.all zf=true:=by kernel_rfl
theorem ZT {v:V}{r:R}(h:wZ v r=true):∃h',r=some (v,h'):=by
 cases r with
 |none=>cases h
 |some p=>
  obtain⟨v',h'⟩:=p
  have h:V.same v' v=true:=h
  letI:Base:=Base.known Know.nought (aC.nought (λ_=>0) (λ_=>[])) 0 default
  rw[V.kG h]
  exact⟨h',rfl⟩
structure InP (l f:Int):Prop where
 l0:0<=l
 l1:l<=15
 f0:0<=f
 f1:f<=2
theorem BG {l f:Int}(h:InP l f)(d:Bool):zf (l.toNat,d,f.toNat)=true:=by
 have:=h.l0;have:=h.l1;have:=h.f0;have:=h.f1
 exact aeV.1 Uj _ (Qs _ _ _ (by omega) (by omega))
theorem InP.toNat {l f:Int}(h:InP l f):((l.toNat:Nat):Int)=l/\((f.toNat:Nat):Int)=f:=by
 have:=h.l0;have:=h.f0
 omega
theorem UA {l f:Int}(h:InP l f)(d:Bool):(jF l d f).length<=21:=by
 have h1:=BG h d
 obtain⟨e1,e2⟩:=h.toNat
 unfold zf at h1
 simp only[aeI,e1,e2]at h1
 exact aff h1.2
abbrev Pl:=Nat×Nat×Nat
def plT (p:Pl):List S:=[.xi .i64 p.1,.xe [(p.2.1,1)],.xi .u8 p.2.2]
def Zu (L:Lf)(p:Pl):Bool:=Option.rec false (λa=>Option.rec false (λb=>decide (0<=a.1)&&decide (a.2<=15)&&decide (0<=b.1)&&decide (b.2<=2)) (nth L.iv (L.rep p.2.2))) (nth L.iv (L.rep p.1))
def DV (L:Lf)(cells:List S):Nat->List Pl->Option Nat
 |_,[]=>none
 |j,p::r=>bif iT S.eqv ((plT p).map L.nS) cells&&Zu L p then some (256+j)else DV L cells (j+1) r
def plG (L:Lf)(n:Nat)(pls:List Pl)(mk:Nat->V)(args:List A):Option V:=match args with
 |[.g cells]=>ob (DV L cells n pls) λh=>some (mk h)
 |_=>none
def PlE (n:Nat)(pls:List Pl)(rho:Nat->Int)(sig:Nat->List UInt8):Prop:=∀j p,pls[j]? =some p->InP (rho p.1) (rho p.2.2)->sig (n+j)=jF (rho p.1) (decide (rho p.2.1=1)) (rho p.2.2)
theorem yV {L:Lf}{cells:List S}:∀{pls:List Pl} {n h:Nat},DV L cells n pls=some h->∃j p,pls[j]? =some p/\h=256+(n+j)/\(plT p).map L.nS=cells/\Zu L p=true
 |[],_,_,e=>by cases e
 |p::r,n,h,e=>by
  have e:(bif iT S.eqv ((plT p).map L.nS) cells&&Zu L p then some (256+n)else DV L cells (n+1) r)=some h:=e
  cases hc:(iT S.eqv ((plT p).map L.nS) cells&&Zu L p)<;>rw[hc]at e<;>simp only[aeW,aeS]at e
  ·obtain⟨j,q,h1,h2,h3⟩:=yV e
   exact⟨j+1,q,by simpa using h1,by omega,h3⟩
  ·cases e
   simp only[aeI]at hc
   letI:Base:=Base.known Know.nought (aC.nought (λ_=>0) (λ_=>[])) 0 default
   exact⟨0,p,rfl,rfl,Iz (λ_ _=>S.y9) hc.1,hc.2⟩
section
variable [Base] {L:Lf}
def S.sc (x:S):Bool:=match x with | .bool _| .int .. | .xi .. | .xe _| .xs _| .str _=>true|_=>false
theorem VS.only {r:Ren}{x:S}(h:x.sc=true){v v':Value}(k:VS r x v)(k':VS r x v'):v=v':=by
 cases x<;>simp[S.sc]at h<;>exact k.trans k'.symm
theorem a94 (kd:IntKind)(i:Nat):(L.nS (.xi kd i)).sc=true:=by
 show(S.a6h kd (L.rep i) (nth L.iv (L.rep i))).sc=true
 cases nth L.iv (L.rep i)with
 |none=>rfl
 |some p=>
  show S.sc (bif decide (p.1=p.2)then _ else _)=true
  cases decide (p.1=p.2)<;>rfl
theorem ade (l:List (Nat×Int)):(L.nS (.xe l)).sc=true:=by
 show(S.a5G _ (@zX L.BZ (l.map λp=>(L.rep p.1,p.2)))).sc=true
 cases @zX L.BZ (l.map λp=>(L.rep p.1,p.2))<;>rfl
theorem Nr {r:Ren}(h:L.Holds Base.rho Base.sig){p:Pl}{us:List Value}(hu:au (VS r) ((plT p).map L.nS) us):
  us=[.int .i64 (Base.rho p.1),.bool (decide (Base.rho p.2.1=1)),.int .u8 (Base.rho p.2.2)]:=by
 match us,hu with
 |[a,b,c],⟨h1,h2,h3,_⟩=>
  have e1:=VS.only (a94 _ _) h1 (Lf.QV h (show VS r (.xi .i64 p.1) (.int .i64 (Base.rho p.1))from rfl))
  have e2:=VS.only (ade _) h2 (Lf.QV h (show VS r (.xe [(p.2.1,1)]) (.bool (decide (Base.rho p.2.1=1)))by show _=_;simp))
  have e3:=VS.only (a94 _ _) h3 (Lf.QV h (show VS r (.xi .u8 p.2.2) (.int .u8 (Base.rho p.2.2))from rfl))
  rw[e1,e2,e3]
theorem O6 (h:L.Holds Base.rho Base.sig){p:Pl}(hp:Zu L p=true):InP (Base.rho p.1) (Base.rho p.2.2):=by
 unfold Zu at hp
 cases ha:nth L.iv (L.rep p.1)with
 |none=>rw[ha]at hp;cases hp
 |some a=>
  cases hb:nth L.iv (L.rep p.2.2)with
  |none=>rw[ha,hb]at hp;cases hp
  |some b=>
   simp only[ha,hb,aeI,af6]at hp
   have h1:=h.iv _ _ ha
   have h2:=h.iv _ _ hb
   rw[Lf.Uk h]at h1 h2
   exact⟨by omega,by omega,by omega,by omega⟩
end
theorem Ul {w0 w:World}(k:iq w0)(hw:∀b,b<3->w.heap[b]? =w0.heap[b]?){l f:Int}(h:InP l f)(d:Bool){F:FuncId}{v:V}(hv:wZ v (a9P F (l.toNat,d,f.toNat))=true):
  Calls Tryz.prog F #[.agg #[.int .i64 l,.bool d,.int .u8 f]] w λe w'=>∃u,e=.returned u/\(∃r',@VV (base0 w0 (aC.nought (λ_=>0) (λ_=>[]))) r' v u)/\Below w.heap.size w w':=by
 obtain⟨h',hr⟩:=ZT hv
 obtain⟨e1,e2⟩:=h.toNat
 letI b0:Base:=base0 w0 (aC.nought (λ_=>0) (λ_=>[]))
 have hsz:3<=w.heap.size:=by
  have hs:=k.size
  have h3:w0.heap[2]? =some w0.heap[2]:=afU (by omega)
  have:=(aeN.1 ((hw 2 (by decide)).trans h3)).1
  omega
 refine(je w hsz hw (Aq (aC.nought (λ_=>0) (λ_=>[])) (LY (aC.nought (λ_=>0) (λ_=>[])) k) 10 10) (vs:=[.agg #[.int .i64 l,.bool d,.int .u8 f]]) ?_ hr).mono λe w' ⟨u,r',k1,k2,k3⟩=>⟨u,k1,⟨r',k2⟩,k3⟩
 refine⟨⟨[.int .i64 l,.bool d,.int .u8 f],rfl,?_,rfl,?_,trivial⟩,trivial⟩
 ·show Value.int .i64 l=.int .i64 ((l.toNat:Nat):Int)
  rw[e1]
 ·show Value.int .u8 f=.int .u8 ((f.toNat:Nat):Int)
  rw[e2]
section
variable {w0:World} {K:Know} {rho:Nat->Int} {sig:Nat->List UInt8} (ok:aC K rho sig)
def plO (L:Lf)(n:Nat)(pls:List Pl):aU:=λf a h fl=>
 uF 23 (plG L n pls λh=>.t [.s (.xs [h]),.s (.int .i64 0)]) f a h fl
theorem Zl {L:Lf}(hL:L.Holds rho sig){n:Nat}{pls:List Pl}(hE:PlE n pls rho sig)(k:iq w0){F:FuncId}(hF:dJ Tryz.prog F){mk:Nat->V}(at':List UInt8->V)
  (hrun:∀l d f,InP l f->wZ (at' (jF l d f)) (a9P F (l.toNat,d,f.toNat))=true)
  (hmk:∀r r' h t u,bW sig [h]=t->@VV (base0 w0 (aC.nought (λ_=>0) (λ_=>[]))) r' (at' t) u->@VV (base0 w0 ok) r (mk h) u):@Sound (base0 w0 ok) Tryz.prog (uF F (plG L n pls mk)):=by
 letI:Base:=base0 w0 ok
 refine kF hF λargs v hg r vs ha w hw=>?_
 unfold plG at hg
 split at hg
 ·rename_i cells
  obtain⟨u,rfl,hu⟩:=H6 ha
  obtain⟨us,rfl,hu⟩:=hu
  obtain⟨q,hq,hg⟩:=aj hg
  cases hg
  obtain⟨j,p,hj,rfl,rfl,hp⟩:=yV hq
  obtain rfl:=Nr hL hu
  have hin:=O6 hL hp
  refine(Ul k hw hin _ (hrun _ _ _ hin)).mono λe w' ⟨u,e1,⟨r',e2⟩,e3⟩=>⟨u,e1,hmk r r' _ _ u ?_ e2,e3⟩
  rw[iM]
  exact hE j p hj hin
 ·cases hg
theorem a2a {L:Lf}(hL:L.Holds rho sig){n:Nat}{pls:List Pl}(hE:PlE n pls rho sig)(k:iq w0):@Sound (base0 w0 ok) Tryz.prog (plO L n pls):=by
 have hT:∀r r' h t u,bW sig [h]=t->@VV (base0 w0 (aC.nought (λ_=>0) (λ_=>[]))) r' (.t [.s (.str t),.s (.int .i64 0)]) u->@VV (base0 w0 ok) r (.t [.s (.xs [h]),.s (.int .i64 0)]) u:=by
  intro r r' h t u ht hu
  obtain⟨us,rfl,hu⟩:=hu
  refine⟨us,rfl,?_⟩
  match us,hu with
  |[a,b],⟨h1,h2,_⟩=>exact⟨by subst ht;exact h1,h2,trivial⟩
 have hA:∀r r' h t u,bW sig [h]=t->@VV (base0 w0 (aC.nought (λ_=>0) (λ_=>[]))) r' (.a (.s (.str t))) u->@VV (base0 w0 ok) r (.a (.s (.xs [h]))) u:=by
  intro r r' h t u ht hu
  subst ht
  exact hu
 have hr:=λl d f (h:InP l f)=>BG h d
 simp only[zf,aeI]at hr
 have e0:=λl f (h:InP l f)=>(h.toNat).1
 have e1:=λl f (h:InP l f)=>(h.toNat).2
 refine Zl ok hL hE k ⟨_,Tryz.func23,by kernel_rfl,by kernel_rfl⟩ (λt=>.t [.s (.str t),.s (.int .i64 0)]) (λl d f h=>?_) hT
 ·have:=(hr l d f h).1.1
  simp only[e0 l f h,e1 l f h]at this
  exact this
end
def plX (cs:List Value)(pls:List Pl):List (List UInt8):=pls.map λp=>
 bif decide (0<=dH cs p.1)&&decide (dH cs p.1<=15)&&decide (0<=dH cs p.2.2)&&decide (dH cs p.2.2<=2)then jF (dH cs p.1) (decide (dH cs p.2.1=1)) (dH cs p.2.2)else[]
theorem FQ (cs:List Value)(pls:List Pl):∀x,x∈plX cs pls->x.length<=21:=λx hx=>by
 simp only[plX,afo]at hx
 obtain⟨p,_,rfl⟩:=hx
 cases hc:(decide (0<=dH cs p.1)&&decide (dH cs p.1<=15)&&decide (0<=dH cs p.2.2)&&decide (dH cs p.2.2<=2))with
 |false=>simp
 |true=>
  simp only[aeI,af6]at hc
  exact UA ⟨hc.1.1.1,hc.1.1.2,hc.1.2,hc.2⟩ _
theorem a9r {cs:List Value}{pls:List Pl}(hp:pls.all (λp=>decide (p.1<cs.length)&&decide (p.2.1<cs.length)&&decide (p.2.2<cs.length))=true):PlE cs.length pls (dH (kH cs (plX cs pls))) (gu (kH cs (plX cs pls))):=by
 intro j p hj hin
 have hm:=aeV.1 hp p (aeY hj)
 simp only[aeI,af6]at hm
 obtain⟨⟨h1,h2⟩,h3⟩:=hm
 rw[nY h1,nY h3]at hin
 rw[nY h1,nY h2,nY h3]
 refine a8O ?_
 rw[plX,aeT,hj]
 simp only[agn,afI]
 rw[show(decide (0<=dH cs p.1)&&decide (dH cs p.1<=15)&&decide (0<=dH cs p.2.2)&&decide (dH cs p.2.2<=2))=true by
  simp only[aeI,af6];exact⟨⟨⟨hin.l0,hin.l1⟩,hin.f0⟩,hin.f1⟩]
 rfl
def I64 (n:Int):Prop:=-9223372036854775808<=n/\n<=9223372036854775807
def YR (f:Int):List UInt8:=if f=1 then[46,49]else if f=2 then[46,50]else[]
theorem N7 (l:Int)(d:Bool)(f:Int):jF l d f=(bif d then[42]else[])++(120::(gy l++YR f)):=by
 unfold jF YR
 simp
structure Opd where
 k:Int
 n:Int
 l:Int
 d:Bool
 f:Int
def Opd.Ok (o:Opd):Prop:=(o.k=1/\I64 o.n/\o.l=0/\o.d=false/\o.f=0)\/((o.k=2\/o.k=3)/\o.n=0/\InP o.l o.f)
def Wn:List UInt8:=[99,111,112,121,32]
def XA:List UInt8:=[109,111,118,101,32]
def opT (o:Opd):List UInt8:=if o.k=1 then gy o.n else if o.k=2 then Wn++jF o.l o.d o.f else XA++jF o.l o.d o.f
structure Rv where
 k:Int
 a:Opd
 b:Opd
 op:Int
 bo:Int
 l:Int
 d:Bool
 f:Int
def Opd.no:Opd:=⟨0,0,0,false,0⟩
def Rv.Ok (r:Rv):Prop:=
 (r.k=1/\r.a.Ok/\r.b=Opd.no/\r.op=0/\r.bo=0/\r.l=0/\r.d=false/\r.f=0)\/
 (r.k=2/\r.a.Ok/\r.b.Ok/\(1<=r.op/\r.op<=6)/\r.bo=0/\r.l=0/\r.d=false/\r.f=0)\/
 (r.k=3/\r.a.Ok/\r.b.Ok/\r.op=0/\r.bo=0/\r.l=0/\r.d=false/\r.f=0)\/
 (r.k=4/\r.a=Opd.no/\r.b=Opd.no/\r.op=0/\(1<=r.bo/\r.bo<=3)/\InP r.l r.f)\/
 (r.k=5/\r.a=Opd.no/\r.b=Opd.no/\r.op=0/\r.bo=0/\InP r.l r.f)
def sgn (op:Int):UInt8:=if op=1 then 43 else if op=2 then 45 else if op=3 then 42 else if op=4 then 47 else if op=5 then 60 else 61
def a6D (k bo:Int):List UInt8:=if k=5 then[38,114,97,119,32]else if bo=1 then[38]else if bo=2 then[38,109,117,116,32]else[38,116,119,111,32]
def rvT (r:Rv):List UInt8:=
 if r.k=1 then opT r.a
 else if r.k=2 then opT r.a++(32::sgn r.op::32::opT r.b)
 else if r.k=3 then 40::(opT r.a++(44::32::(opT r.b++[41])))
 else a6D r.k r.bo++jF r.l r.d r.f
inductive Rv.As (r:Rv):Prop where
 |use (h:r=⟨1,r.a,Opd.no,0,0,0,false,0⟩) (a:r.a.Ok)
 |bin (h:r=⟨2,r.a,r.b,r.op,0,0,false,0⟩) (a:r.a.Ok) (b:r.b.Ok) (o:1<=r.op/\r.op<=6)
 |pair (h:r=⟨3,r.a,r.b,0,0,0,false,0⟩) (a:r.a.Ok) (b:r.b.Ok)
 |ref (h:r=⟨r.k,Opd.no,Opd.no,0,r.bo,r.l,r.d,r.f⟩) (k:(r.k=4/\1<=r.bo/\r.bo<=3)\/(r.k=5/\r.bo=0)) (p:InP r.l r.f)
