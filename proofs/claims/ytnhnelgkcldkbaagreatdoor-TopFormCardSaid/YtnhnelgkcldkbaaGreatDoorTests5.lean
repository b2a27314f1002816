/- What the machine says of this program, without oracles. -/
import Derived.Test.YtnhnelgkcldkbaaGreatDoorProg
import Derived.Test.YtnhnelgkcldkbaaGreatDoorAmC
set_option linter.all false
set_option maxRecDepth 100000
noncomputable section
namespace Go.Proofs.YtnhnelgkcldkbaaGreatDoor
namespace Am
open Go.RowKit
abbrev vC (w0:World){K:Know}{rho:Nat->Int}{sig:Nat->List UInt8}(ok:aC K rho sig):Base:=Base.known K ok 0 w0
section
variable {w0:World} {K:Know} {rho:Nat->Int} {sig:Nat->List UInt8} (ok:aC K rho sig)
theorem WA:a4P Tryz.prog (pJ Tryz.prog):=by
 have hall:(Tryz.prog.funcs.toList.all λF=>!(F.name== "runtime.NumGoroutine"))=true:=by kernel_rfl
 intro f F h
 refine⟨h,?_⟩
 have hm:F∈Tryz.prog.funcs.toList:=by
  have h:Tryz.prog.funcs[f]? =some F:=h
  rw[<-afx]at h
  exact aeY h
 simpa using aeV.1 hall F hm
theorem GV:Tryz.prog.follows .mixedOrders=true:=by kernel_rfl
def wW:aU:=λ_ _ _ _=>none
theorem mY:@Sound (vC w0 ok) Tryz.prog wW:=λ_ _ _ _ _ _ h=>by cases h
theorem sK {lib:aU}(hl:@Sound (vC w0 ok) Tryz.prog lib)(n d:Nat):@Sound (vC w0 ok) Tryz.prog (@runs K (oq Tryz.prog) (pJ Tryz.prog) lib n d):=
 @VU (vC w0 ok) _ _ (@yJ (vC w0 ok) Tryz.prog) _ WA _ hl GV n d
end
theorem mD {α:Type}(p:α->Bool)(n:Nat):∀(k:Nat) (l:List α),l.length<=n*k->(∀i,i<k->((l.drop (n*i)).take n).all p=true)->l.all p=true
 |0,l,h,_=>by rw[afA (Nat.le_zero.1 h)];rfl
 |k+1,l,h,hk=>by
  rw[<-agc n l,agi,aeI]
  refine⟨by simpa using hk 0 (Nat.succ_pos k),mD p n k (l.drop n) (by rw[agE,ahu]at *;omega) λi hi=>?_⟩
  have:=hk (i+1) (Nat.succ_lt_succ hi)
  rwa[List.drop_drop,show n+n*i=n*(i+1)by rw[ahu,ags]]
def ckB (g:Lf->Bool)(T:Sp)(L:Lf)(n i:Nat):Bool:=(((T.leaves L).drop (n*i)).take n).all g
def E.ands:List E->E
 |[]=>.zero []
 |[e]=>e
 |e::r=>.and e (E.ands r)
def zs (o n:Nat):List (Nat×Int):=(List.range n).map λi=>(o+i,0)
def dX (o:Nat):E:=.ands [.not (.lt o 0),.lt o 16,.lt (o+2) 3]
def aY (o:Nat):E:=.or (.and (.zero [(o,1)]) (.zero (zs (o+2) 3))) (.ands [.or (.zero [(o,2)]) (.zero [(o,3)]),.zero [(o+1,0)],dX (o+2)])
def qC (o:Nat):E:=
 .or (.ands [.zero [(o,1)],aY (o+3),.zero (zs (o+8) 5),.zero (zs (o+13) 3),.zero [(o+1,0)],.zero [(o+2,0)]])
 (.or (.ands [.zero [(o,2)],aY (o+3),aY (o+8),.zero (zs (o+13) 3),.not (.lt (o+1) 1),.lt (o+1) 7,.zero [(o+2,0)]])
 (.or (.ands [.zero [(o,3)],aY (o+3),aY (o+8),.zero (zs (o+13) 3),.zero [(o+1,0)],.zero [(o+2,0)]])
 (.or (.ands [.zero [(o,4)],.zero (zs (o+3) 5),.zero (zs (o+8) 5),dX (o+13),.zero [(o+1,0)],.not (.lt (o+2) 1),.lt (o+2) 4])
 (.ands [.zero [(o,5)],.zero (zs (o+3) 5),.zero (zs (o+8) 5),dX (o+13),.zero [(o+1,0)],.zero [(o+2,0)]]))))
abbrev kPl:List Kd:=[.i .i64,.b,.i .u8]
abbrev kOp:List Kd:=.i .u8::.i .i64::kPl
abbrev kRv:List Kd:=.i .u8::.i .u8::.i .u8::(kOp++(kOp++kPl))
def v8 (b:Bool):Value:=.int .i64 (bif b then 0 else 8)
def m8 (b:Bool):V:=V.s (.int .i64 (bif b then 0 else 8))
def mB (b:Bool):V:=V.s (.bool b)
theorem AX (b0:Base)(r:Ren)(b:Bool)(u:Value)(h:@VV b0 r (m8 b) u):u=v8 b:=h
theorem a1X (b0:Base)(r:Ren)(b:Bool)(u:Value)(h:@VV b0 r (mB b) u):u=.bool b:=h
abbrev yD:World->Prop:=λ_=>True
section
variable {F:FuncId} {ks:List Kd} {e:E} {val:Bool->Value}
theorem og {mk:Bool->V}(hmk:∀(b0:Base) r b u,@VV b0 r (mk b) u->u=val b)(lib:Lf->aU)
  (hl:∀(L:Lf) {rho:Nat->Int} {sig:Nat->List UInt8} (h:L.Holds rho sig) (k:Lens (fF 0 ks) rho sig),@Sound (vC default (Lf.ok h k)) Tryz.prog (lib L)) {sp:Sp}
  (hrun:((sp.leaves (Lf.start [(true,ks)])).all λL=>oL e mk ks L (@runs (L.know (fF 0 ks)) (oq Tryz.prog) (pJ Tryz.prog) (lib L) 30 15 F [.g ((dD 0 ks).map L.nS)] ⟨[],0⟩ 0))=true):Tests Tryz.prog yD F ks e val:=
 λus hk w _=>a2C (nb:=0) (w0:=default) (λL=>@runs (L.know (fF 0 ks)) (oq Tryz.prog) (pJ Tryz.prog) (lib L) 30 15) mk hmk
  (λL {rho sig} h k d=>@sK default _ rho sig (Lf.ok h k) _ (hl L h k) 30 15) hrun us hk w ⟨afb _,λ_ h=>by cases h⟩
def tO (F:FuncId)(ks:List Kd)(e:E)(mk:Bool->V)(K:Know):aU:=uF F (@a0L K ks e mk)
theorem jW (b:Base)(hc:dJ Tryz.prog F)(h:Tests Tryz.prog yD F ks e v8):@Sound b Tryz.prog (tO F ks e m8 b.toKnow):=@Ic b Tryz.prog yD F hc ks e v8 h (λ_ _=>trivial) m8 (λ_ _=>rfl)
theorem QD (b:Base)(hc:dJ Tryz.prog F)(h:Tests Tryz.prog yD F ks e .bool):@Sound b Tryz.prog (tO F ks e mB b.toKnow):=@Ic b Tryz.prog yD F hc ks e .bool h (λ_ _=>trivial) mB (λ_ _=>rfl)
end
def acZ:Lf:=Lf.start [(true,kPl)]
def a7D:Sp:=(.cut 0 0 .leaf (.cut 0 16 (.cut 2 3 .leaf .leaf) .leaf))
def a0v (L:Lf):Bool:=oL (dX 0) m8 kPl L (@runs (L.know (fF 0 kPl)) (oq Tryz.prog) (pJ Tryz.prog) (wW) 30 15 67 [.g ((dD 0 kPl).map L.nS)] ⟨[],0⟩ 0)
theorem a6R:(a7D.leaves acZ).all a0v=true:=by kernel_rfl
theorem vG:Tests Tryz.prog yD 67 kPl (dX 0) v8:=og AX (λ_=>wW) (λ_ {_ _} h k=>mY (Lf.ok h k)) (sp:=a7D) a6R
def a0A (L:Lf):Bool:=oL (dX 0) m8 kPl L (@runs (L.know (fF 0 kPl)) (oq Tryz.prog) (pJ Tryz.prog) (wW) 30 15 123 [.g ((dD 0 kPl).map L.nS)] ⟨[],0⟩ 0)
theorem a5J:(a7D.leaves acZ).all a0A=true:=by kernel_rfl
theorem yH:Tests Tryz.prog yD 123 kPl (dX 0) v8:=og AX (λ_=>wW) (λ_ {_ _} h k=>mY (Lf.ok h k)) (sp:=a7D) a5J
def abX:Lf:=Lf.start [(true,kOp)]
def a5S:Sp:=(.cut 0 1 .leaf (.cut 0 2 (.conj [(2,0),(3,0),(4,0)] .leaf .leaf) (.cut 0 3 (.cut 1 0 .leaf (.cut 1 1 (.cut 2 0 .leaf (.cut 2 16 (.cut 4 3 .leaf .leaf) .leaf)) .leaf)) (.cut 0 4 (.cut 1 0 .leaf (.cut 1 1 (.cut 2 0 .leaf (.cut 2 16 (.cut 4 3 .leaf .leaf) .leaf)) .leaf)) .leaf))))
def a5k (L:Lf):Bool:=oL (aY 0) m8 kOp L (@runs (L.know (fF 0 kOp)) (oq Tryz.prog) (pJ Tryz.prog) (wW) 30 15 126 [.g ((dD 0 kOp).map L.nS)] ⟨[],0⟩ 0)
theorem a6G:(a5S.leaves abX).all a5k=true:=by kernel_rfl
theorem uJ:Tests Tryz.prog yD 126 kOp (aY 0) v8:=og AX (λ_=>wW) (λ_ {_ _} h k=>mY (Lf.ok h k)) (sp:=a5S) a6G
def a1v (L:Lf):Bool:=oL (aY 0) m8 kOp L (@runs (L.know (fF 0 kOp)) (oq Tryz.prog) (pJ Tryz.prog) (wW) 30 15 125 [.g ((dD 0 kOp).map L.nS)] ⟨[],0⟩ 0)
theorem a5C:(a5S.leaves abX).all a1v=true:=by kernel_rfl
theorem uy:Tests Tryz.prog yD 125 kOp (aY 0) v8:=og AX (λ_=>wW) (λ_ {_ _} h k=>mY (Lf.ok h k)) (sp:=a5S) a5C
def low4 (K:Know):aU:=λf a h fl=>orR (tO 67 kPl (dX 0) m8 K f a h fl) ( orR (tO 123 kPl (dX 0) m8 K f a h fl) ( orR (tO 126 kOp (aY 0) m8 K f a h fl) (tO 125 kOp (aY 0) m8 K f a h fl)))
theorem Ae (b:Base):@Sound b Tryz.prog (low4 b.toKnow):=@fG b _ _ _ (jW b ⟨_,Tryz.func67,by kernel_rfl,by kernel_rfl⟩ vG) ( @fG b _ _ _ (jW b ⟨_,Tryz.func123,by kernel_rfl,by kernel_rfl⟩ yH) ( @fG b _ _ _ (jW b ⟨_,Tryz.func126,by kernel_rfl,by kernel_rfl⟩ uJ) (jW b ⟨_,Tryz.func125,by kernel_rfl,by kernel_rfl⟩ uy)))
def iI:Lf:=Lf.start [(true,kRv)]
def ac1:Sp:=.cut 2 1 .leaf .leaf
def abA:Sp:=.conj [(1,0),(2,0)] .leaf (.cut 1 1 ac1 .leaf)
def aat:Sp:=.conj [(1,0),(2,0),(13,0),(14,0),(15,0)] .leaf (.conj [(13,0),(14,0),(15,0)] abA .leaf)
def acr:Sp:=.conj [(1,0),(2,0),(8,0),(9,0),(10,0),(11,0),(12,0),(13,0),(14,0),(15,0)] .leaf (.conj [(8,0),(9,0),(10,0),(11,0),(12,0)] aat .leaf)
def abZ:Sp:=.cut 4 0 .leaf (.cut 4 1 (.cut 5 0 .leaf (.cut 5 16 (.cut 7 3 acr .leaf) .leaf)) .leaf)
def acT:Sp:=.conj [(13,0),(14,0),(15,0)] .leaf .leaf
def acS:Sp:=.cut 1 1 acT (.cut 1 7 (.conj [(2,0),(13,0),(14,0),(15,0)] .leaf (.conj [(13,0),(14,0),(15,0)] ac1 .leaf)) acT)
def ad9:Sp:=.cut 9 0 .leaf (.cut 9 1 (.cut 10 0 .leaf (.cut 10 16 (.cut 12 3 acS .leaf) .leaf)) .leaf)
def ady:Sp:=.cut 8 1 .leaf (.cut 8 2 (.conj [(10,0),(11,0),(12,0)] acS .leaf) (.cut 8 3 ad9 (.cut 8 4 ad9 .leaf)))
def abU:Sp:=.cut 4 0 .leaf (.cut 4 1 (.cut 5 0 .leaf (.cut 5 16 (.cut 7 3 ady .leaf) .leaf)) .leaf)
def a9B:Sp:=.cut 9 0 .leaf (.cut 9 1 (.cut 10 0 .leaf (.cut 10 16 (.cut 12 3 aat .leaf) .leaf)) .leaf)
def a8B:Sp:=.cut 8 1 .leaf (.cut 8 2 (.conj [(10,0),(11,0),(12,0)] aat .leaf) (.cut 8 3 a9B (.cut 8 4 a9B .leaf)))
def a8y:Sp:=.cut 4 0 .leaf (.cut 4 1 (.cut 5 0 .leaf (.cut 5 16 (.cut 7 3 a8B .leaf) .leaf)) .leaf)
def LQ:Sp:=.conj [(3,0),(4,0),(5,0),(6,0),(7,0)] (.conj [(8,0),(9,0),(10,0),(11,0),(12,0)] .leaf .leaf) .leaf
def a9a:Sp:=.conj [(8,0),(9,0),(10,0),(11,0),(12,0)] (.cut 1 1 .leaf .leaf) .leaf
def a9E:Sp:=.conj [(3,0),(4,0),(5,0),(6,0),(7,0)] a9a .leaf
def gW:Sp:=.cut 0 1 .leaf (.cut 0 2 (.cut 3 1 .leaf (.cut 3 2 (.conj [(5,0),(6,0),(7,0)] acr .leaf) (.cut 3 3 abZ (.cut 3 4 abZ .leaf)))) (.cut 0 3 (.cut 3 1 .leaf (.cut 3 2 (.conj [(5,0),(6,0),(7,0)] ady .leaf) (.cut 3 3 abU (.cut 3 4 abU .leaf)))) (.cut 0 4 (.cut 3 1 .leaf (.cut 3 2 (.conj [(5,0),(6,0),(7,0)] a8B .leaf) (.cut 3 3 a8y (.cut 3 4 a8y .leaf)))) (.cut 0 5 (.cut 13 0 LQ (.cut 13 16 (.cut 15 3 (.cut 2 1 a9E (.cut 2 4 (.conj [(1,0),(3,0),(4,0),(5,0),(6,0),(7,0),(8,0),(9,0),(10,0),(11,0),(12,0)] .leaf (.conj [(3,0),(4,0),(5,0),(6,0),(7,0)] (.conj [(1,0),(8,0),(9,0),(10,0),(11,0),(12,0)] .leaf a9a) .leaf)) a9E)) LQ) LQ)) (.cut 0 6 (.cut 13 0 LQ (.cut 13 16 (.cut 15 3 (.conj [(1,0),(2,0),(3,0),(4,0),(5,0),(6,0),(7,0),(8,0),(9,0),(10,0),(11,0),(12,0)] .leaf (.conj [(3,0),(4,0),(5,0),(6,0),(7,0)] (.conj [(1,0),(2,0),(8,0),(9,0),(10,0),(11,0),(12,0)] .leaf (.conj [(8,0),(9,0),(10,0),(11,0),(12,0)] abA .leaf)) .leaf)) LQ) LQ)) .leaf)))))
def iy (L:Lf):Bool:=oL (qC 0) m8 kRv L (@runs (L.know (fF 0 kRv)) (oq Tryz.prog) (pJ Tryz.prog) (low4 (L.know (fF 0 kRv))) 30 15 62 [.g ((dD 0 kRv).map L.nS)] ⟨[],0⟩ 0)
theorem a3k:ckB iy gW iI 20 0=true:=by kernel_rfl
theorem a0D:ckB iy gW iI 20 1=true:=by kernel_rfl
theorem a3u:ckB iy gW iI 20 2=true:=by kernel_rfl
theorem a0W:ckB iy gW iI 20 3=true:=by kernel_rfl
theorem a0p:ckB iy gW iI 20 4=true:=by kernel_rfl
theorem a1O:ckB iy gW iI 20 5=true:=by kernel_rfl
theorem a4t:ckB iy gW iI 20 6=true:=by kernel_rfl
theorem a5c:ckB iy gW iI 20 7=true:=by kernel_rfl
theorem a2G:ckB iy gW iI 20 8=true:=by kernel_rfl
theorem a3E:ckB iy gW iI 20 9=true:=by kernel_rfl
theorem Ye:ckB iy gW iI 20 10=true:=by kernel_rfl
theorem Y7:ckB iy gW iI 20 11=true:=by kernel_rfl
theorem Zd:ckB iy gW iI 20 12=true:=by kernel_rfl
theorem ZY:ckB iy gW iI 20 13=true:=by kernel_rfl
theorem a0e:ckB iy gW iI 20 14=true:=by kernel_rfl
theorem ZV:ckB iy gW iI 20 15=true:=by kernel_rfl
theorem a6x:(gW.leaves iI).all iy=true:=mD _ 20 16 _ (aff (by kernel_rfl)) λi hi=>match i,hi with
 |0,_=>a3k
 |1,_=>a0D
 |2,_=>a3u
 |3,_=>a0W
 |4,_=>a0p
 |5,_=>a1O
 |6,_=>a4t
 |7,_=>a5c
 |8,_=>a2G
 |9,_=>a3E
 |10,_=>Ye
 |11,_=>Y7
 |12,_=>Zd
 |13,_=>ZY
 |14,_=>a0e
 |15,_=>ZV
 |i+16,h=>absurd h (by omega)
theorem LC:Tests Tryz.prog yD 62 kRv (qC 0) v8:=og AX (λL=>low4 (L.know (fF 0 kRv))) (λ_ {_ _} h k=>Ae (vC default (Lf.ok h k))) (sp:=gW) a6x
def iw (L:Lf):Bool:=oL (qC 0) m8 kRv L (@runs (L.know (fF 0 kRv)) (oq Tryz.prog) (pJ Tryz.prog) (low4 (L.know (fF 0 kRv))) 30 15 124 [.g ((dD 0 kRv).map L.nS)] ⟨[],0⟩ 0)
theorem a2B:ckB iw gW iI 20 0=true:=by kernel_rfl
theorem a2x:ckB iw gW iI 20 1=true:=by kernel_rfl
theorem a3p:ckB iw gW iI 20 2=true:=by kernel_rfl
theorem a3G:ckB iw gW iI 20 3=true:=by kernel_rfl
theorem a13:ckB iw gW iI 20 4=true:=by kernel_rfl
theorem a4L:ckB iw gW iI 20 5=true:=by kernel_rfl
theorem a4v:ckB iw gW iI 20 6=true:=by kernel_rfl
theorem a2J:ckB iw gW iI 20 7=true:=by kernel_rfl
theorem a2R:ckB iw gW iI 20 8=true:=by kernel_rfl
theorem a0Z:ckB iw gW iI 20 9=true:=by kernel_rfl
theorem Yc:ckB iw gW iI 20 10=true:=by kernel_rfl
theorem Yh:ckB iw gW iI 20 11=true:=by kernel_rfl
theorem YF:ckB iw gW iI 20 12=true:=by kernel_rfl
theorem YL:ckB iw gW iI 20 13=true:=by kernel_rfl
theorem Ze:ckB iw gW iI 20 14=true:=by kernel_rfl
theorem Y6:ckB iw gW iI 20 15=true:=by kernel_rfl
theorem a7P:(gW.leaves iI).all iw=true:=mD _ 20 16 _ (aff (by kernel_rfl)) λi hi=>match i,hi with
 |0,_=>a2B
 |1,_=>a2x
 |2,_=>a3p
 |3,_=>a3G
 |4,_=>a13
 |5,_=>a4L
 |6,_=>a4v
 |7,_=>a2J
 |8,_=>a2R
 |9,_=>a0Z
 |10,_=>Yc
 |11,_=>Yh
 |12,_=>YF
 |13,_=>YL
 |14,_=>Ze
 |15,_=>Y6
 |i+16,h=>absurd h (by omega)
theorem KX:Tests Tryz.prog yD 124 kRv (qC 0) v8:=og AX (λL=>low4 (L.know (fF 0 kRv))) (λ_ {_ _} h k=>Ae (vC default (Lf.ok h k))) (sp:=gW) a7P
def gZ (L:Lf):Bool:=oL (qC 0) mB kRv L (@runs (L.know (fF 0 kRv)) (oq Tryz.prog) (pJ Tryz.prog) (low4 (L.know (fF 0 kRv))) 30 15 176 [.g ((dD 0 kRv).map L.nS)] ⟨[],0⟩ 0)
theorem a1K:ckB gZ gW iI 20 0=true:=by kernel_rfl
theorem a0T:ckB gZ gW iI 20 1=true:=by kernel_rfl
theorem a4F:ckB gZ gW iI 20 2=true:=by kernel_rfl
theorem a2t:ckB gZ gW iI 20 3=true:=by kernel_rfl
theorem a3g:ckB gZ gW iI 20 4=true:=by kernel_rfl
theorem a1i:ckB gZ gW iI 20 5=true:=by kernel_rfl
theorem a3l:ckB gZ gW iI 20 6=true:=by kernel_rfl
theorem a1n:ckB gZ gW iI 20 7=true:=by kernel_rfl
theorem a2h:ckB gZ gW iI 20 8=true:=by kernel_rfl
theorem a3j:ckB gZ gW iI 20 9=true:=by kernel_rfl
theorem Zq:ckB gZ gW iI 20 10=true:=by kernel_rfl
theorem a07:ckB gZ gW iI 20 11=true:=by kernel_rfl
theorem a05:ckB gZ gW iI 20 12=true:=by kernel_rfl
theorem Yq:ckB gZ gW iI 20 13=true:=by kernel_rfl
theorem Z4:ckB gZ gW iI 20 14=true:=by kernel_rfl
theorem a08:ckB gZ gW iI 20 15=true:=by kernel_rfl
theorem a8b:(gW.leaves iI).all gZ=true:=mD _ 20 16 _ (aff (by kernel_rfl)) λi hi=>match i,hi with
 |0,_=>a1K
 |1,_=>a0T
 |2,_=>a4F
 |3,_=>a2t
 |4,_=>a3g
 |5,_=>a1i
 |6,_=>a3l
 |7,_=>a1n
 |8,_=>a2h
 |9,_=>a3j
 |10,_=>Zq
 |11,_=>a07
 |12,_=>a05
 |13,_=>Yq
 |14,_=>Z4
 |15,_=>a08
 |i+16,h=>absurd h (by omega)
theorem Zo:Tests Tryz.prog yD 176 kRv (qC 0) .bool:=og a1X (λL=>low4 (L.know (fF 0 kRv))) (λ_ {_ _} h k=>Ae (vC default (Lf.ok h k))) (sp:=gW) a8b
def TT (K:Know):aU:=λf a h fl=>orR (tO 67 kPl (dX 0) m8 K f a h fl) ( orR (tO 123 kPl (dX 0) m8 K f a h fl) ( orR (tO 126 kOp (aY 0) m8 K f a h fl) ( orR (tO 125 kOp (aY 0) m8 K f a h fl) ( orR (tO 62 kRv (qC 0) m8 K f a h fl) ( orR (tO 124 kRv (qC 0) m8 K f a h fl) (tO 176 kRv (qC 0) mB K f a h fl))))))
theorem CP (b:Base):@Sound b Tryz.prog (TT b.toKnow):=@fG b _ _ _ (jW b ⟨_,Tryz.func67,by kernel_rfl,by kernel_rfl⟩ vG) ( @fG b _ _ _ (jW b ⟨_,Tryz.func123,by kernel_rfl,by kernel_rfl⟩ yH) ( @fG b _ _ _ (jW b ⟨_,Tryz.func126,by kernel_rfl,by kernel_rfl⟩ uJ) ( @fG b _ _ _ (jW b ⟨_,Tryz.func125,by kernel_rfl,by kernel_rfl⟩ uy) ( @fG b _ _ _ (jW b ⟨_,Tryz.func62,by kernel_rfl,by kernel_rfl⟩ LC) ( @fG b _ _ _ (jW b ⟨_,Tryz.func124,by kernel_rfl,by kernel_rfl⟩ KX) (QD b ⟨_,Tryz.func176,by kernel_rfl,by kernel_rfl⟩ Zo))))))
abbrev kSt:List Kd:=.i .u8::(kPl++(kRv++(kOp++[.i .i64])))
def dK:E:=
 .or (.ands [.zero [(0,1)],dX 1,qC 4,.zero (zs 20 5),.zero [(25,0)]])
 (.or (.ands [.or (.zero [(0,2)]) (.zero [(0,4)]),.zero (zs 1 3),.zero (zs 4 16),aY 20,.zero [(25,0)]])
 (.ands [.zero [(0,3)],.zero (zs 1 3),.zero (zs 4 16),.zero (zs 20 5),.not (.lt 25 0),.lt 25 16]))
def Wp:E:=
 .or (.ands [.zero [(0,1)],.zero [(26,1)],.zero [(27,1)],.zero (zs 20 5),.zero [(25,0)]])
 (.or (.ands [.or (.zero [(0,2)]) (.zero [(0,4)]),.zero (zs 1 3),.zero (zs 4 16),.zero [(28,1)],.zero [(25,0)]])
 (.ands [.zero [(0,3)],.zero (zs 1 3),.zero (zs 4 16),.zero (zs 20 5),.not (.lt 25 0),.lt 25 16]))
def jQ (us:List Value):List Int:=[b2i ((dX 1).val us),b2i ((qC 4).val us),b2i ((aY 20).val us)]
theorem mg (b:Bool):decide (b2i b=1)=b:=by cases b<;>decide
theorem a5Z {us:List Value}(hl:us.length=26):Wp.val (us++(jQ us).map (Value.int .i64))=dK.val us:=by
 have z:∀l:List (Nat×Int),(l.all λp=>Nat.blt p.1 26)=true->(E.zero l).val (us++(jQ us).map (Value.int .i64))=(E.zero l).val us:=λl h=>by
  simp only[E.val]
  rw[agM,aeV,aeV]
  have key:∀p∈l,ah (us++(jQ us).map (Value.int .i64)) p.1=ah us p.1:=λp hp=>jy (by
   have:=aeV.1 h p hp
   rw[afM]at this
   omega)
  constructor<;>intro hh p hp<;>have:=hh p hp
  ·rwa[key p hp]at this
  ·rwa[key p hp]
 have b:∀(j:Nat) (x:Bool),(jQ us)[j]? =some (b2i x)->(E.zero [(26+j,1)]).val (us++(jQ us).map (Value.int .i64))=x:=λj x h=>by
  simp only[E.val,afz,agV,afg]
  rw[lg hl]
  unfold ah
  rw[aeT,h]
  exact mg x
 have t:∀i (c:Int),i<26->(E.lt i c).val (us++(jQ us).map (Value.int .i64))=(E.lt i c).val us:=λi c h=>by
  simp only[E.val]
  rw[jy (by omega)]
 have e:∀vs:List Value,Wp.val vs=(((E.zero [(0,1)]).val vs&&((E.zero [(26,1)]).val vs&&((E.zero [(27,1)]).val vs&&((E.zero (zs 20 5)).val vs&&(E.zero [(25,0)]).val vs))))||
   ((((E.zero [(0,2)]).val vs||(E.zero [(0,4)]).val vs)&&((E.zero (zs 1 3)).val vs&&((E.zero (zs 4 16)).val vs&&((E.zero [(28,1)]).val vs&&(E.zero [(25,0)]).val vs))))||
   ((E.zero [(0,3)]).val vs&&((E.zero (zs 1 3)).val vs&&((E.zero (zs 4 16)).val vs&&((E.zero (zs 20 5)).val vs&&(!(E.lt 25 0).val vs&&(E.lt 25 16).val vs))))))):=λ_=>rfl
 rw[e,z [(0,1)] (by decide),b 0 _ rfl,b 1 _ rfl,z (zs 20 5) (by decide),z [(25,0)] (by decide),z [(0,2)] (by decide),z [(0,4)] (by decide),z (zs 1 3) (by decide),z (zs 4 16) (by decide),b 2 _ rfl,z [(0,3)] (by decide),t 25 0 (by decide),t 25 16 (by decide)]
 rfl
def stB (L:Lf):List aU:=letI:=L.know []
 [uj 67 (clL L 1 kPl) 26 m8,uj 123 (clL L 1 kPl) 26 m8,uj 62 (clL L 4 kRv) 27 m8,uj 124 (clL L 4 kRv) 27 m8,
  uj 126 (clL L 20 kOp) 28 m8,uj 125 (clL L 20 kOp) 28 m8,tO 67 kPl (dX 0) m8 (L.know [])]
def adn (F:FuncId)(L:Lf):R:=@runs (L.know []) (oq Tryz.prog) (pJ Tryz.prog) (FB (stB L)) 30 15 F ((Xh 0 [(true,kSt)]).map L.nA) ⟨[],0⟩ 0
def Ac (mk:Bool->V)(F:FuncId)(L:Lf):Bool:=Option.rec false (λb=>wZ (mk b) (adn F L)) (@E.abs (L.know []) ((dD 0 kSt++[S.xi .i64 26,S.xi .i64 27,S.xi .i64 28]).map L.nS) Wp)
def a2n:Lf:=Lf.xO [(true,kSt)] [] [(0,1),(0,1),(0,1)]
theorem a06 {us:List Value}{n:Nat}:(dX 0).val ((us.drop n).take 3)=(dX n).val us:=by
 simp only[dX,E.ands,E.val,afK,yM (show 0<3 by decide),yM (show 2<3 by decide),afS]
theorem sub_zero {us:List Value}{n m:Nat}{l:List (Nat×Int)}(h:(l.all λp=>Nat.blt p.1 m)=true):(E.zero l).val ((us.drop n).take m)=(E.zero (l.map λp=>(n+p.1,p.2))).val us:=by
 simp only[E.val,agG]
 rw[agM,aeV,aeV]
 have key:∀p∈l,ah ((us.drop n).take m) p.1=ah us (n+p.1):=λp hp=>yM (by
  have:=aeV.1 h p hp
  rw[afM]at this
  exact this)
 constructor<;>intro hh p hp<;>have:=hh p hp<;>simp only[Function.comp]at this |-
 ·rwa[key p hp]at this
 ·rwa[key p hp]
def E.mv (n:Nat):E->E
 | .lt i c=>.lt (n+i) c
 | .zero l=>.zero (l.map λp=>(n+p.1,p.2))
 | .and a b=>.and (a.mv n) (b.mv n)
 | .or a b=>.or (a.mv n) (b.mv n)
 | .not a=>.not (a.mv n)
def E.top:E->Nat
 | .lt i _=>i+1
 | .zero l=>l.foldr (λp m=>max (p.1+1) m) 0
 | .and a b=>max a.top b.top
 | .or a b=>max a.top b.top
 | .not a=>a.top
theorem WX {m:Nat}:∀{l:List (Nat×Int)},l.foldr (λp m=>max (p.1+1) m) 0<=m->(l.all λp=>Nat.blt p.1 m)=true
 |[],_=>rfl
 |p::l,h=>by
  rw[List.foldr_cons]at h
  have h1:p.1+1<=m:=afv (ahB ..) h
  rw[afz,WX (afv (ahx ..) h),afg,afM]
  omega
theorem wG {us:List Value}{n m:Nat}:∀e:E,e.top<=m->e.val ((us.drop n).take m)=(e.mv n).val us
 | .lt i c,h=>by
  have h:i+1<=m:=h
  simp only[E.val,E.mv]
  rw[yM (by omega)]
 | .zero l,h=>sub_zero (by
  have h:l.foldr (λp m=>max (p.1+1) m) 0<=m:=h
  exact WX h)
 | .and a b,h=>by
  have h:max a.top b.top<=m:=h
  simp only[E.val,E.mv,wG a (afv (ahB ..) h),wG b (afv (ahx ..) h)]
 | .or a b,h=>by
  have h:max a.top b.top<=m:=h
  simp only[E.val,E.mv,wG a (afv (ahB ..) h),wG b (afv (ahx ..) h)]
 | .not a,h=>by
  have h:a.top<=m:=h
  simp only[E.val,E.mv,wG a h]
theorem a1d {us:List Value}{n:Nat}:(dX 0).val ((us.drop n).take 3)=(dX n).val us:=a06
theorem ac8 {us:List Value}:(aY 0).val ((us.drop 20).take 5)=(aY 20).val us:=(wG (aY 0) (by decide)).trans rfl
theorem abl {us:List Value}:(qC 0).val ((us.drop 4).take 16)=(qC 4).val us:=(wG (qC 0) (by decide)).trans rfl
theorem YE {us:List Value}(hk:au Kd.ok kSt us){L:Lf}[b0:Base](hK:b0.toKnow=L.know [])(h1:Base.rho=dH (behind us [] (jQ us)))(h2:Base.sig=gu (behind us [] (jQ us)))(hL:L.Holds Base.rho Base.sig):Sound Tryz.prog (FB (stB L)):=by
 have hlen:us.length=26:=hk.len.symm
 have hp:au Kd.ok kPl ((us.drop 1).take 3):=(hk.drop 1).take 3
 have hr:au Kd.ok kRv ((us.drop 4).take 16):=(hk.drop 4).take 16
 have ho:au Kd.ok kOp ((us.drop 20).take 5):=(hk.drop 20).take 5
 have cp:au (VS r0) (clL L 1 kPl) ((us.drop 1).take 3):=Ai hL h1 h2 (Ba us _ 1 3) (by simp[hlen]) hp
 have cr:au (VS r0) (clL L 4 kRv) ((us.drop 4).take 16):=Ai hL h1 h2 (Ba us _ 4 16) (by simp[hlen]) hr
 have co:au (VS r0) (clL L 20 kOp) ((us.drop 20).take 5):=Ai hL h1 h2 (Ba us _ 20 5) (by simp[hlen]) ho
 have r26:Base.rho 26=b2i ((dX 0).val ((us.drop 1).take 3)):=by
  rw[h1,a1d]
  exact jG (a:=0) (j:=0) hlen rfl rfl
 have r27:Base.rho 27=b2i ((qC 0).val ((us.drop 4).take 16)):=by
  rw[h1,abl]
  exact jG (a:=0) (j:=1) hlen rfl rfl
 have r28:Base.rho 28=b2i ((aY 0).val ((us.drop 20).take 5)):=by
  rw[h1,ac8]
  exact jG (a:=0) (j:=2) hlen rfl rfl
 have key:∀O∈@List.cons aU (@uj b0.toKnow 67 (clL L 1 kPl) 26 m8) [@uj b0.toKnow 123 (clL L 1 kPl) 26 m8,@uj b0.toKnow 62 (clL L 4 kRv) 27 m8,@uj b0.toKnow 124 (clL L 4 kRv) 27 m8,
  @uj b0.toKnow 126 (clL L 20 kOp) 28 m8,@uj b0.toKnow 125 (clL L 20 kOp) 28 m8,tO 67 kPl (dX 0) m8 b0.toKnow],Sound Tryz.prog O:=by
   intro O hO
   simp only[aeQ,aeZ,afj]at hO
   rcases hO with rfl|rfl|rfl|rfl|rfl|rfl|rfl
   ·exact kL ⟨_,Tryz.func67,by kernel_rfl,by kernel_rfl⟩ (mQ L kPl 1 rfl) cp r26 (λ_=>rfl) λw _=>vG _ hp w trivial
   ·exact kL ⟨_,Tryz.func123,by kernel_rfl,by kernel_rfl⟩ (mQ L kPl 1 rfl) cp r26 (λ_=>rfl) λw _=>yH _ hp w trivial
   ·exact kL ⟨_,Tryz.func62,by kernel_rfl,by kernel_rfl⟩ (mQ L kRv 4 rfl) cr r27 (λ_=>rfl) λw _=>LC _ hr w trivial
   ·exact kL ⟨_,Tryz.func124,by kernel_rfl,by kernel_rfl⟩ (mQ L kRv 4 rfl) cr r27 (λ_=>rfl) λw _=>KX _ hr w trivial
   ·exact kL ⟨_,Tryz.func126,by kernel_rfl,by kernel_rfl⟩ (mQ L kOp 20 rfl) co r28 (λ_=>rfl) λw _=>uJ _ ho w trivial
   ·exact kL ⟨_,Tryz.func125,by kernel_rfl,by kernel_rfl⟩ (mQ L kOp 20 rfl) co r28 (λ_=>rfl) λw _=>uy _ ho w trivial
   ·exact jW b0 ⟨_,Tryz.func67,by kernel_rfl,by kernel_rfl⟩ vG
 rw[hK]at key
 exact kD key
theorem J9 {F:FuncId}{mk:Bool->V}{val:Bool->Value}(hmk:∀(b0:Base) r b u,@VV b0 r (mk b) u->u=val b){sp:Sp}(hrun:((sp.leaves a2n).all (Ac mk F))=true):Tests Tryz.prog yD F kSt dK val:=by
 intro us hk w _
 have hg:Gps [(true,kSt)] [.agg us.toArray] us:=⟨us,[],(aft _).symm,⟨hk,.inl ⟨rfl,rfl⟩⟩,rfl⟩
 have hlen:us.length=26:=hk.len.symm
 have b01:∀b:Bool,(0:Int)<=b2i b/\b2i b<=1:=λb=>by cases b<;>decide
 have kk:Lens [] (dH (behind us [] (jQ us))) (gu (behind us [] (jQ us))):=y5 (n:=26) (a:=0) hg rfl hlen rfl
 have hst:a2n.Holds (dH (behind us [] (jQ us))) (gu (behind us [] (jQ us))):=Lf.a0k hg (ivS:=[]) trivial ⟨b01 _,b01 _,b01 _,trivial⟩
 obtain⟨L,hm,hL⟩:=sp.cover hst
 have hp:=aeV.1 hrun L hm
 letI b0:Base:=vC default (Lf.ok hL kk)
 have ha:au (VA r0) (Xh 0 [(true,kSt)]) [.agg us.toArray]:=xC (pre:=[]) (cs':=us) (cs:=behind us [] (jQ us)) rfl rfl ((jQ us).map (Value.int .i64)) rfl hg
 have hc:au (VS r0) ((dD 0 kSt++[S.xi .i64 26,S.xi .i64 27,S.xi .i64 28]).map L.nS) (us++(jQ us).map (Value.int .i64)):=by
  refine Lf.Gx hL ((lI (cs:=behind us [] (jQ us)) (pre:=[]) (us:=us) (post:=(jQ us).map (Value.int .i64)) rfl rfl rfl hk).app ?_)
  refine⟨?_,?_,?_,trivial⟩
  ·exact congrArg (Value.int .i64) (jG (a:=0) (j:=0) (ints:=jQ us) (strs:=[]) hlen rfl rfl).symm
  ·exact congrArg (Value.int .i64) (jG (a:=0) (j:=1) (ints:=jQ us) (strs:=[]) hlen rfl rfl).symm
  ·exact congrArg (Value.int .i64) (jG (a:=0) (j:=2) (ints:=jQ us) (strs:=[]) hlen rfl rfl).symm
 unfold Ac at hp
 cases hb:@E.abs (L.know []) ((dD 0 kSt++[S.xi .i64 26,S.xi .i64 27,S.xi .i64 28]).map L.nS) Wp with
 |none=>rw[hb]at hp;cases hp
 |some b=>
  rw[hb]at hp
  obtain⟨h',hr⟩:=yL hp
  have hbv:=E.qZ hc hb
  rw[a5Z hlen]at hbv
  refine(je w (afb _) (λ_ h=>by cases h) (sK (Lf.ok hL kk) (YE hk (L:=L) rfl rfl rfl hL) 30 15) (Lf.xU hL ha) hr).mono λx w' ⟨u,r',e1,e2,e3⟩=>⟨?_,e3⟩
  rw[e1,hmk _ _ _ _ e2,hbv]
def XD:Lf:=a2n
def a9l:Lf:=(XD.hi 0 (1-1))
def a4b:Sp:=(.conj [(1,0),(2,0),(3,0),(4,0),(5,0),(6,0),(7,0),(8,0),(9,0),(10,0),(11,0),(12,0),(13,0),(14,0),(15,0),(16,0),(17,0),(18,0),(19,0),(20,0),(21,0),(22,0),(23,0),(24,0),(25,0)] .leaf .leaf)
def Qe:Lf:=(XD.lo 0 1)
def a8X:Lf:=(Qe.hi 0 (2-1))
def a4p:Sp:=(.cut 27 1 (.cut 26 1 (.conj [(20,0),(21,0),(22,0),(23,0),(24,0),(25,0)] .leaf .leaf) (.conj [(20,0),(21,0),(22,0),(23,0),(24,0),(25,0)] .leaf .leaf)) (.cut 26 1 (.conj [(20,0),(21,0),(22,0),(23,0),(24,0),(25,0)] .leaf .leaf) (.conj [(20,0),(21,0),(22,0),(23,0),(24,0),(25,0)] .leaf (.conj [(20,0),(21,0),(22,0),(23,0),(24,0)] (.cut 25 0 .leaf (.cut 25 1 .leaf .leaf)) .leaf))))
def Ql:Lf:=(Qe.lo 0 2)
def a9f:Lf:=(Ql.hi 0 (3-1))
def a1t:Sp:=(.conj [(1,0),(2,0),(3,0),(4,0),(5,0),(6,0),(7,0),(8,0),(9,0),(10,0),(11,0),(12,0),(13,0),(14,0),(15,0),(16,0),(17,0),(18,0),(19,0),(25,0)] (.cut 28 1 .leaf .leaf) (.conj [(1,0),(2,0),(3,0)] (.conj [(4,0),(5,0),(6,0),(7,0),(8,0),(9,0),(10,0),(11,0),(12,0),(13,0),(14,0),(15,0),(16,0),(17,0),(18,0),(19,0),(25,0)] (.cut 28 1 .leaf .leaf) (.conj [(4,0),(5,0),(6,0),(7,0),(8,0),(9,0),(10,0),(11,0),(12,0),(13,0),(14,0),(15,0),(16,0),(17,0),(18,0),(19,0)] (.cut 25 0 .leaf (.cut 25 1 (.cut 28 1 .leaf .leaf) .leaf)) .leaf)) .leaf))
def a8N:Lf:=(Ql.lo 0 3)
def a2E:Sp:=(.cut 0 4 (.cut 25 0 (.conj [(1,0),(2,0),(3,0),(4,0),(5,0),(6,0),(7,0),(8,0),(9,0),(10,0),(11,0),(12,0),(13,0),(14,0),(15,0),(16,0),(17,0),(18,0),(19,0),(20,0),(21,0),(22,0),(23,0),(24,0)] .leaf .leaf) (.cut 25 16 (.conj [(1,0),(2,0),(3,0),(4,0),(5,0),(6,0),(7,0),(8,0),(9,0),(10,0),(11,0),(12,0),(13,0),(14,0),(15,0),(16,0),(17,0),(18,0),(19,0),(20,0),(21,0),(22,0),(23,0),(24,0)] .leaf (.conj [(1,0),(2,0),(3,0)] (.conj [(4,0),(5,0),(6,0),(7,0),(8,0),(9,0),(10,0),(11,0),(12,0),(13,0),(14,0),(15,0),(16,0),(17,0),(18,0),(19,0),(20,0),(21,0),(22,0),(23,0),(24,0)] .leaf (.conj [(4,0),(5,0),(6,0),(7,0),(8,0),(9,0),(10,0),(11,0),(12,0),(13,0),(14,0),(15,0),(16,0),(17,0),(18,0),(19,0)] (.conj [(20,0),(21,0),(22,0),(23,0),(24,0)] .leaf .leaf) .leaf)) .leaf)) (.conj [(1,0),(2,0),(3,0),(4,0),(5,0),(6,0),(7,0),(8,0),(9,0),(10,0),(11,0),(12,0),(13,0),(14,0),(15,0),(16,0),(17,0),(18,0),(19,0),(20,0),(21,0),(22,0),(23,0),(24,0)] .leaf .leaf))) (.cut 0 5 (.conj [(1,0),(2,0),(3,0),(4,0),(5,0),(6,0),(7,0),(8,0),(9,0),(10,0),(11,0),(12,0),(13,0),(14,0),(15,0),(16,0),(17,0),(18,0),(19,0),(25,0)] (.cut 28 1 .leaf .leaf) (.conj [(1,0),(2,0),(3,0)] (.conj [(4,0),(5,0),(6,0),(7,0),(8,0),(9,0),(10,0),(11,0),(12,0),(13,0),(14,0),(15,0),(16,0),(17,0),(18,0),(19,0),(25,0)] (.cut 28 1 .leaf .leaf) (.conj [(4,0),(5,0),(6,0),(7,0),(8,0),(9,0),(10,0),(11,0),(12,0),(13,0),(14,0),(15,0),(16,0),(17,0),(18,0),(19,0)] (.cut 25 0 .leaf (.cut 25 1 (.cut 28 1 .leaf .leaf) .leaf)) .leaf)) .leaf)) (.conj [(1,0),(2,0),(3,0),(4,0),(5,0),(6,0),(7,0),(8,0),(9,0),(10,0),(11,0),(12,0),(13,0),(14,0),(15,0),(16,0),(17,0),(18,0),(19,0),(20,0),(21,0),(22,0),(23,0),(24,0),(25,0)] .leaf .leaf)))
def Vz:Sp:=.cut 0 3 a1t a2E
def Y3:Sp:=.cut 0 2 a4p Vz
def a4Y:Sp:=.cut 0 1 a4b Y3
theorem adZ:(a4b.leaves a9l).all (Ac m8 75)=true:=by kernel_rfl
theorem aeD:(a4p.leaves a8X).all (Ac m8 75)=true:=by kernel_rfl
theorem aea:(a1t.leaves a9f).all (Ac m8 75)=true:=by kernel_rfl
theorem aes:(a2E.leaves a8N).all (Ac m8 75)=true:=by kernel_rfl
theorem adL:(Vz.leaves Ql).all (Ac m8 75)=true:=by
 have e:Vz.leaves Ql=a1t.leaves a9f++a2E.leaves a8N:=rfl
 rw[e]
 simp only[agi,aea,aes,aha]
theorem adT:(Y3.leaves Qe).all (Ac m8 75)=true:=by
 have e:Y3.leaves Qe=a4p.leaves a8X++Vz.leaves Ql:=rfl
 rw[e]
 simp only[agi,aeD,adL,aha]
theorem adQ:(a4Y.leaves XD).all (Ac m8 75)=true:=by
 have e:a4Y.leaves XD=a4b.leaves a9l++Y3.leaves Qe:=rfl
 rw[e]
 simp only[agi,adZ,adT,aha]
theorem KY:Tests Tryz.prog yD 75 kSt dK v8:=J9 AX (sp:=a4Y) adQ
def Xo:Lf:=a2n
def a8M:Lf:=(Xo.hi 0 (1-1))
def a3b:Sp:=.leaf
def a9x:Lf:=(Xo.lo 0 1)
def a1R:Sp:=(.cut 0 2 (.cut 26 1 .leaf (.cut 27 1 .leaf (.conj [(20,0),(21,0),(22,0),(23,0),(24,0)] (.cut 25 0 .leaf (.cut 25 1 .leaf .leaf)) .leaf))) (.cut 0 3 (.conj [(1,0),(2,0),(3,0)] (.conj [(4,0),(5,0),(6,0),(7,0),(8,0),(9,0),(10,0),(11,0),(12,0),(13,0),(14,0),(15,0),(16,0),(17,0),(18,0),(19,0)] (.cut 28 1 .leaf (.cut 25 0 .leaf (.cut 25 1 .leaf .leaf))) .leaf) .leaf) (.cut 0 4 (.conj [(1,0),(2,0),(3,0)] (.conj [(4,0),(5,0),(6,0),(7,0),(8,0),(9,0),(10,0),(11,0),(12,0),(13,0),(14,0),(15,0),(16,0),(17,0),(18,0),(19,0)] (.conj [(20,0),(21,0),(22,0),(23,0),(24,0)] (.cut 25 0 .leaf (.cut 25 16 .leaf .leaf)) .leaf) .leaf) .leaf) (.cut 0 5 (.conj [(1,0),(2,0),(3,0)] (.conj [(4,0),(5,0),(6,0),(7,0),(8,0),(9,0),(10,0),(11,0),(12,0),(13,0),(14,0),(15,0),(16,0),(17,0),(18,0),(19,0)] (.cut 28 1 .leaf (.cut 25 0 .leaf (.cut 25 1 .leaf .leaf))) .leaf) .leaf) .leaf))))
def a2q:Sp:=.cut 0 1 a3b a1R
theorem ae5:(a3b.leaves a8M).all (Ac m8 20)=true:=by kernel_rfl
theorem aeC:(a1R.leaves a9x).all (Ac m8 20)=true:=by kernel_rfl
theorem adM:(a2q.leaves Xo).all (Ac m8 20)=true:=by
 have e:a2q.leaves Xo=a3b.leaves a8M++a1R.leaves a9x:=rfl
 rw[e]
 simp only[agi,ae5,aeC,aha]
theorem ZJ:Tests Tryz.prog yD 20 kSt dK v8:=J9 AX (sp:=a2q) adM
def WB:Lf:=a2n
def a9A:Lf:=(WB.hi 0 (1-1))
def a1F:Sp:=.leaf
def a9p:Lf:=(WB.lo 0 1)
def a4u:Sp:=(.cut 0 2 (.cut 26 1 .leaf (.cut 27 1 .leaf (.conj [(20,0),(21,0),(22,0),(23,0),(24,0)] (.cut 25 0 .leaf (.cut 25 1 .leaf .leaf)) .leaf))) (.cut 0 3 (.conj [(1,0),(2,0),(3,0)] (.conj [(4,0),(5,0),(6,0),(7,0),(8,0),(9,0),(10,0),(11,0),(12,0),(13,0),(14,0),(15,0),(16,0),(17,0),(18,0),(19,0)] (.cut 28 1 .leaf (.cut 25 0 .leaf (.cut 25 1 .leaf .leaf))) .leaf) .leaf) (.cut 0 4 (.conj [(1,0),(2,0),(3,0)] (.conj [(4,0),(5,0),(6,0),(7,0),(8,0),(9,0),(10,0),(11,0),(12,0),(13,0),(14,0),(15,0),(16,0),(17,0),(18,0),(19,0)] (.conj [(20,0),(21,0),(22,0),(23,0),(24,0)] (.cut 25 0 .leaf (.cut 25 16 .leaf .leaf)) .leaf) .leaf) .leaf) (.cut 0 5 (.conj [(1,0),(2,0),(3,0)] (.conj [(4,0),(5,0),(6,0),(7,0),(8,0),(9,0),(10,0),(11,0),(12,0),(13,0),(14,0),(15,0),(16,0),(17,0),(18,0),(19,0)] (.cut 28 1 .leaf (.cut 25 0 .leaf (.cut 25 1 .leaf .leaf))) .leaf) .leaf) .leaf))))
def a5a:Sp:=.cut 0 1 a1F a4u
theorem ae6:(a1F.leaves a9A).all (Ac mB 61)=true:=by kernel_rfl
theorem adS:(a4u.leaves a9p).all (Ac mB 61)=true:=by kernel_rfl
theorem adH:(a5a.leaves WB).all (Ac mB 61)=true:=by
 have e:a5a.leaves WB=a1F.leaves a9A++a4u.leaves a9p:=rfl
 rw[e]
 simp only[agi,ae6,adS,aha]
theorem LX:Tests Tryz.prog yD 61 kSt dK .bool:=J9 a1X (sp:=a5a) adH
def a3o (K:Know):aU:=λf a h fl=>orR (TT K f a h fl) (orR (tO 75 kSt dK m8 K f a h fl) ( orR (tO 20 kSt dK m8 K f a h fl) (tO 61 kSt dK mB K f a h fl)))
theorem P5 (b:Base):@Sound b Tryz.prog (a3o b.toKnow):=@fG b _ _ _ (CP b) (@fG b _ _ _ (jW b ⟨_,Tryz.func75,by kernel_rfl,by kernel_rfl⟩ KY) ( @fG b _ _ _ (jW b ⟨_,Tryz.func20,by kernel_rfl,by kernel_rfl⟩ ZJ) (QD b ⟨_,Tryz.func61,by kernel_rfl,by kernel_rfl⟩ LX)))
