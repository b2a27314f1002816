/- How long the lines of a function are, up to each place. -/
import Derived.Test.YtnhnelgkcldkbaaGreatDoorQue
import Derived.Test.YtnhnelgkcldkbaaGreatDoorFn28
import Derived.Deep.DeepCutAuto
set_option linter.all false
set_option maxHeartbeats 2000000
set_option maxRecDepth 100000
open Bool renaming and_eq_true_iff → aia
open Array renaming replicate → aib
namespace Go.Proofs.YtnhnelgkcldkbaaGreatDoor
namespace txt
open Go.RowKit Am
def AY (D:FnD)(n:Int)(i:Nat):List (List UInt8):=Cj n D.p D.u::tY D i
def Ew (D:FnD)(n:Int)(i:Nat):List (List UInt8):=Cj n D.p D.u::(tY D D.ls.length++qh D i)
def Ep (D:FnD)(n:Int)(i k:Nat):List (List UInt8):=Ew D n i++(bhT i::((D.bs.getD i noB).st.take k).map stL)
theorem Mc (D:FnD)(n:Int):AY D n 0=[Cj n D.p D.u]:=rfl
theorem KL (D:FnD)(n:Int)(i:Nat):AY D n (i+1)=AY D n i++[Tz i (D.ls.getD i [])]:=by unfold AY;rw[Zy];rfl
theorem a3N (D:FnD)(n:Int):AY D n D.ls.length=Ew D n 0:=by simp[AY,Ew,qh]
theorem KJ (D:FnD)(n:Int)(i:Nat):Ep D n i 0=Ew D n i++[bhT i]:=by simp[Ep]
theorem Za {D:FnD}{n:Int}{i k:Nat}{el:List Value}(h:(D.bs.getD i noB).st[k]? =some el):Ep D n i (k+1)=Ep D n i k++[stL el]:=by
 unfold Ep
 rw[ag6,h]
 simp
theorem a0x (D:FnD)(n:Int)(i:Nat):Ep D n i (D.bs.getD i noB).st.length++[jmL (D.bs.getD i noB)]=Ew D n (i+1):=by
 unfold Ep Ew
 rw[Lc]
 simp[Px]
structure Lim (D:FnD):Prop where
 l0:0<D.ls.length
 b0:0<D.bs.length
 l:D.ls.length<=16
 b:D.bs.length<=24
 s:∀b∈D.bs,b.st.length<=24
 o:∀b∈D.bs,b.ops.length<9
theorem getD_or {α:Type}(l:List α)(i:Nat)(d:α):l.getD i d∈l\/l.getD i d=d:=by
 rw[af8]
 cases h:l[i]? with
 |none=>exact .inr rfl
 |some x=>exact .inl (aeY h)
theorem a6B {D:FnD}(h:Lim D)(i:Nat):(jmL (D.bs.getD i noB)).length<=1100:=by
 have h1:(D.bs.getD i noB).ops.length<9:=by
  rcases getD_or D.bs i noB with k|k
  ·exact h.o _ k
  ·rw[k];decide
 have:=Zr (pre:=(D.bs.getD i noB).pre) (post:=(D.bs.getD i noB).post) h1
 simp only[jmL,aeL,afi,afC]
 omega
theorem st_len {D:FnD}(h:Lim D)(i:Nat):(D.bs.getD i noB).st.length<=24:=by
 rcases getD_or D.bs i noB with k|k
 ·exact h.s _ k
 ·rw[k];decide
theorem a4y {D:FnD}(h:Lim D)(i:Nat):(Px i (D.bs.getD i noB)).length<=26:=by
 have:=st_len h i
 simp only[Px,aeL,afi,afC,af4]
 omega
theorem Sl {D:FnD}(h:Lim D):∀i,(qh D i).length<=26*i
 |0=>by simp[qh]
 |i+1=>by
  have:=Sl h i
  have:=a4y h i
  rw[Lc,aeL]
  omega
theorem WM (D:FnD)(i:Nat):∀l∈tY D i,l.length<=1100:=λl hl=>by
 obtain⟨k,_,rfl⟩:=afo.1 hl
 exact a1w _ _
theorem a7O {D:FnD}(h:Lim D)(i:Nat):∀l∈qh D i,l.length<=1100:=λl hl=>by
 obtain⟨k,_,hl⟩:=agK.1 hl
 rcases aeQ.1 hl with rfl|hl
 ·exact WI _
 ·rcases afl.1 hl with hl|hl
  ·obtain⟨s,_,rfl⟩:=afo.1 hl
   exact Xc _
  ·rw[aeR.1 hl];exact a6B h k
theorem Qa {D:FnD}(h:Lim D)(n:Int){i:Nat}(hi:i<=D.ls.length):(nl (AY D n i)).length<=1000000:=by
 have h1:∀l∈AY D n i,l.length<=1100:=λl hl=>by
  rcases aeQ.1 hl with rfl|hl
  ·exact Nc _ _ _
  ·exact WM _ _ l hl
 have h2:=P7 h1
 have h3:(AY D n i).length=i+1:=by simp[AY,Bj]
 have:=h.l
 omega
theorem WL {D:FnD}(h:Lim D)(n:Int)(i:Nat):∀l∈Ew D n i,l.length<=1100:=λl hl=>by
 rcases aeQ.1 hl with rfl|hl
 ·exact Nc _ _ _
 ·rcases afl.1 hl with hl|hl
  ·exact WM _ _ l hl
  ·exact a7O h _ l hl
theorem QY {D:FnD}(h:Lim D)(n:Int)(i:Nat):(Ew D n i).length<=17+26*i:=by
 have:=Sl h i
 have:=h.l
 simp only[Ew,afi,aeL,Bj]
 omega
theorem QE {D:FnD}(h:Lim D)(n:Int){i:Nat}(hi:i<=D.bs.length):(nl (Ew D n i)).length<=1000000:=by
 have h2:=P7 (WL h n i)
 have h3:=QY h n i
 have:=h.b
 omega
theorem QX {D:FnD}(h:Lim D)(n:Int){i k:Nat}(hi:i<D.bs.length):(nl (Ep D n i k)).length<=1000000:=by
 have h1:∀l∈Ep D n i k,l.length<=1100:=λl hl=>by
  rcases afl.1 hl with hl|hl
  ·exact WL h n i l hl
  ·rcases aeQ.1 hl with rfl|hl
   ·exact WI _
   ·obtain⟨s,_,rfl⟩:=afo.1 hl
    exact Xc _
 have h2:=P7 h1
 have h3:=QY h n i
 have h4:(Ep D n i k).length<=(Ew D n i).length+25:=by
  have:=st_len h i
  simp only[Ep,aeL,afi,af4,afu]
  omega
 have:=h.b
 omega
theorem MR {D:FnD}(h:Lim D)(n:Int):(textF D n).length<=1000000:=QE h n (aeM _)
end txt
namespace bld
open Go.RowKit Am loan
def Ans (W:World)(v:Value)(e:Ending)(W':World):Prop:=e=.returned v/\Below W.heap.size W W'
theorem BuilderAtF.keep {T e:TypeId}{B b:Nat}{p:Value}{bs:List Value}{w w':World}(h:Lib.BuilderAtF T e B b p bs w)(hk:∀k,k<w.heap.size->w'.heap[k]? =w.heap[k]?):Lib.BuilderAtF T e B b p bs w':=by
 obtain⟨hB,v,hb,hown,hne⟩:=h
 refine⟨hB,v,(hk _ (aeN.1 hb).1).trans hb,⟨hown.1,?_⟩,hne⟩
 rcases hown.2 with hn|⟨g,cap,cur,fz,hv,hbg,hg,rest⟩
 ·exact .inl hn
 ·exact .inr ⟨g,cap,cur,fz,hv,hbg,(hk _ (aeN.1 hg).1).trans hg,rest⟩
def Bld (T e:TypeId)(b:Nat)(l:List UInt8)(w:World):Prop:=Lib.IsBuilderF T e b b (Lib.byteCells l) w
theorem Bld.keep {T e:TypeId}{b:Nat}{l:List UInt8}{w w':World}(h:Bld T e b l w)(hk:∀k,k<w.heap.size->w'.heap[k]? =w.heap[k]?):Bld T e b l w':=
 h.elim (λx=>.inl (BuilderAtF.keep x hk)) (λx=>.inr (BuilderAtF.keep x hk))
theorem Bld.below {T e:TypeId}{b:Nat}{l:List UInt8}{w w':World}(h:Bld T e b l w)(hb:Below w.heap.size w w'):Bld T e b l w':=h.keep hb.block
theorem Bld.lt {T e:TypeId}{b:Nat}{l:List UInt8}{w:World}(h:Bld T e b l w):b<w.heap.size:=by
 rcases h with⟨_,v,hb,_⟩|⟨_,v,hb,_⟩<;>exact(aeN.1 hb).1
structure Wrote (e:TypeId)(b:Nat)(w w':World):Prop where
 bel:Below b w w'
 oth:Lib.OthersKept e (some b) w w'
theorem Wrote.refl (e:TypeId)(b:Nat)(w:World):Wrote e b w w:=⟨ahE _ _,.refl _ _ _⟩
theorem Wrote.trans {e:TypeId}{b:Nat}{x y z:World}(h:Wrote e b x y)(k:Wrote e b y z):Wrote e b x z:=⟨h.bel.trans k.bel,h.oth.trans k.oth⟩
theorem Wrote.of_below {e:TypeId}{b:Nat}{w w':World}(h:Below w.heap.size w w')(hb:b<=w.heap.size):Wrote e b w w':=
 ⟨h.mono hb,λk o hk _ _=>(h.block k (aeN.1 hk).1).trans hk⟩
theorem Wrote.block {e:TypeId}{b k:Nat}{w w':World}{cs:Array Value}{t:TypeId}{fz:Nat×Nat}(h:Wrote e b w w')(hk:w.heap[k]? =some (.cells cs t fz))(hb:k≠b)(ht:t≠e):w'.heap[k]? =some (.cells cs t fz):=
 h.oth k _ hk (λx=>hb (afE x)) (λc f x=>ht (by injection x))
def qo (w:World)(b:Nat)(e:TypeId)(A:Option Addr)(l:List (List UInt8)):Prop:=
 ∀i s,l[i]? =some s->∃g o cs t fz,A=some ⟨g,o,none⟩/\g≠b/\w.heap[g]? =some (.cells cs t fz)/\t≠e/\cs[o+i]? =some (.string ⟨s.toArray⟩)
theorem qo.wrote {w w':World}{b:Nat}{e:TypeId}{A:Option Addr}{l:List (List UInt8)}(h:qo w b e A l)(hw:Wrote e b w w'):qo w' b e A l:=λi s hi=>by
 obtain⟨g,o,cs,t,fz,hA,hg,hc,ht,hs⟩:=h i s hi
 exact⟨g,o,cs,t,fz,hA,hg,hw.block hc hg ht,ht,hs⟩
theorem qo.cell {w:World}{b:Nat}{e:TypeId}{A:Option Addr}{l:List (List UInt8)}(h:qo w b e A l){i:Nat}{s:List UInt8}(hi:l[i]? =some s):∃g o,A=some ⟨g,o,none⟩/\w.cell? ⟨g,o+i,none⟩=some (.string ⟨s.toArray⟩):=by
 obtain⟨g,o,cs,t,fz,hA,hg,hc,ht,hs⟩:=h i s hi
 exact⟨g,o,hA,by rw[ahF w g (o+i) cs t fz hc];exact hs⟩
theorem qo.new {w:World}{b g:Nat}{e t:TypeId}{l:List (List UInt8)}(hb:g≠b)(ht:t≠e)(h:w.heap[g]? =some (.cells (l.map λs=>Value.string ⟨s.toArray⟩).toArray t (0,0))):qo w b e (some ⟨g,0,none⟩) l:=λi s hi=>
 ⟨g,0,_,t,_,rfl,hb,h,ht,by simp[hi]⟩
theorem ZI (l:List UInt8):Lib.strCells (⟨l.toArray⟩:ByteArray)=Lib.byteCells l:=by
 simp[Lib.strCells,Lib.byteCells]
end bld
namespace txt
open Go.RowKit Am
structure acd (D:FnD):Prop where
 l0:0<D.ls.length
 l1:D.ls.length<=16
 b0:0<D.bs.length
 b1:D.bs.length<=24
 s:∀b∈D.bs,b.st.length<=24
 p:0<=D.p/\D.p<=8
 ty:∀t∈D.ls,qm t=true
 st:∀b∈D.bs,∀x∈b.st,dK.val x=true
 jm:∀b∈D.bs,okJ b.pre b.ops b.post=true
theorem kX {D:FnD}(hc:check.iY D=0):acd D:=by
 obtain⟨h1,h2,_⟩:=size.xX hc
 obtain⟨m1,m2,m3⟩:=check.xW h1
 have hk:=check.yc h2
 unfold made.kT head.ny head.guard at h2
 simp only[aeI,af6]at h2
 obtain⟨⟨⟨g1,g2,g3,g4⟩,g5,g6⟩,g7,g8⟩:=h2
 refine⟨g1,m1,g7,m2,m3,⟨g2,g3⟩,λt ht=>aeV.1 g5 t ht,λb hb x hx=>?_,λb hb=>?_⟩
 ·have:=hk b hb
  unfold made.okB at this
  exact aeV.1 (aia.1 this).1 x hx
 ·have:=hk b hb
  unfold made.okB at this
  exact(aia.1 this).2
theorem abo {w:World}{v:Value}{pre:List Value}{sv:Value}{post:List Value}{els:List (List Value)}(hj:jd w v pre sv post els)(h:okJ pre els post=true):els.length<9:=by
 rcases isJ hj h with⟨_,_,_,_,l,_⟩|⟨_,_,_,_,_,l,_⟩|⟨_,_,l,_⟩|⟨_,_,_,_,_,l,_,_⟩
 ·rw[l];decide
 ·rw[l];decide
 ·rw[l];decide
 ·exact l
open loan bld
def jE:List (Nat×Nat):=[(1,0),(2,0),(3,1),(3,2),(4,1),(4,2),(5,1),(5,2)]
def oU (p:Nat×Nat):List Value:=[.int .u8 p.1,.int .u8 p.2]
def a5O (p:Nat×Nat):List S:=[.int .u8 p.1,.int .u8 p.2]
noncomputable abbrev QH (f:FuncId)(p:Nat×Nat):R:=@runs Know.nought (oq Tryz.prog) (pJ Tryz.prog) wW 12 8 f [.g (a5O p)] ⟨[],0⟩ 0
theorem ZU:jE.all (λp=>wZ (.t [.s (.str (ED (oU p))),.s (.int .i64 0)]) (QH 101 p))=true:=by kernel_rfl
theorem qN {t:List Value}(h:au Kd.ok [.i .u8,.i .u8] t)(hk:qm t=true):∃p∈jE,t=oU p:=by
 match t,h with
 |[_,_],⟨⟨a,rfl,ha⟩,⟨b,rfl,hb⟩,_⟩=>
  have h:((decide (a=1)||decide (a=2))&&decide (b=0))||((!decide (a<3))&&(decide (a<6)&&(decide (b=1)||decide (b=2))))=true:=by
   have:EI.num (ah [Value.int .u8 a,.int .u8 b])=true:=hk
   simpa[EI,E.num,ands,isE,ah,bD]using this
  simp only[afJ,aeI,af6,ag3,afB]at h
  have:(a=1/\b=0)\/(a=2/\b=0)\/(a=3/\b=1)\/(a=3/\b=2)\/(a=4/\b=1)\/(a=4/\b=2)\/(a=5/\b=1)\/(a=5/\b=2):=by omega
  rcases this with⟨rfl,rfl⟩|⟨rfl,rfl⟩|⟨rfl,rfl⟩|⟨rfl,rfl⟩|⟨rfl,rfl⟩|⟨rfl,rfl⟩|⟨rfl,rfl⟩|⟨rfl,rfl⟩
  ·exact⟨(1,0),by decide,rfl⟩
  ·exact⟨(2,0),by decide,rfl⟩
  ·exact⟨(3,1),by decide,rfl⟩
  ·exact⟨(3,2),by decide,rfl⟩
  ·exact⟨(4,1),by decide,rfl⟩
  ·exact⟨(4,2),by decide,rfl⟩
  ·exact⟨(5,1),by decide,rfl⟩
  ·exact⟨(5,2),by decide,rfl⟩
theorem yX {f:FuncId}{p:Nat×Nat}{v:V}(w:World)(h:wZ v (QH f p)=true):
  Calls Tryz.prog f #[.agg (oU p).toArray] w λe w'=>∃u,e=.returned u/\(∃r,@VV (vC w (aC.nought (λ_=>0) (λ_=>[]))) r v u)/\Below w.heap.size w w':=by
 have ok:=aC.nought (λ_=>0) (λ_=>[])
 letI:Base:=vC w ok
 have hS:=sK ok (@mY w _ _ _ ok) 12 8
 cases hr:QH f p with
 |none=>rw[hr]at h;cases h
 |some q=>
  obtain⟨v',h'⟩:=q
  rw[hr]at h
  have hv:=V.kG (show V.same v' v=true from h)
  subst hv
  exact(je w (afb _) (λk hk=>absurd hk (ag7 k)) hS (args:=[.g (a5O p)]) (vs:=[.agg (oU p).toArray]) ⟨⟨_,rfl,⟨rfl,rfl,trivial⟩⟩,trivial⟩ hr).mono λe w' ⟨u,r',e1,e2,e3⟩=>⟨u,e1,⟨r',e2⟩,e3⟩
theorem aaI {t:List Value}(h:au Kd.ok [.i .u8,.i .u8] t)(hk:qm t=true)(w:World):Calls Tryz.prog 101 #[.agg t.toArray] w (bld.Ans w (.tuple #[.string ⟨(ED t).toArray⟩,.int .i64 0])):=by
 obtain⟨p,hp,rfl⟩:=qN h hk
 refine(yX w (aeV.1 ZU p hp)).mono ?_
 rintro e w' ⟨u,rfl,⟨r,us,rfl,hu⟩,hb⟩
 match us,hu with
 |[x,y],⟨h1,h2,_⟩=>
  refine⟨?_,hb⟩
  rw[show x=.string ⟨(ED (oU p)).toArray⟩from h1,show y=.int .i64 0 from h2]
end txt
namespace bld
open Go.RowKit Am loan
abbrev tB:TypeId:=108
abbrev tU:TypeId:=5
theorem acK:(Tryz.prog.info? 108).map (·.size)=some 2:=by kernel_rfl
theorem TY (b:Nat)(w:World)(h0:w.cell? ⟨b,0,none⟩=some (.pointer (some ⟨b,0,none⟩))):
  Calls Tryz.prog 196 #[.pointer (some ⟨b,0,none⟩)] w λe w'=>e=.returned (.tuple #[])/\w'=w:=by
 obtain⟨j,hj,_⟩:=afV.1 acK
 go_enter Tryz.func196,Tryz.ntmps196
 go_wp2
 rw[Lib.run_neq_ptr_same w _ Tryz.underlying106 hj]
 go_wp2
 go_end0
 exact⟨rfl,rfl⟩
theorem SE (b:Nat)(w:World)(h0:w.cell? ⟨b,0,none⟩=some (.pointer none))(hsh:w.shape? b=some (tB,2))(hfz:w.frozen? ⟨b,0,none⟩=false):
  Calls Tryz.prog 196 #[.pointer (some ⟨b,0,none⟩)] w λe w'=>e=.returned (.tuple #[])/\w'=w.setCell ⟨b,0,none⟩ (.pointer (some ⟨b,0,none⟩)):=by
 obtain⟨j,hj,hjs⟩:=afV.1 acK
 go_enter Tryz.func196,Tryz.ntmps196
 go_wp2
 rw[Lib.run_to_unsafe w ⟨b,0,none⟩ Tryz.underlying106 Tryz.underlying273 hj (by rw[hjs];decide) hsh (Nat.zero_lt_succ 1)]
 simp only[Result.andThen]
 rw[ai8]
 go_wp2
 rw[run_callFunc_extern Tryz.func227 (by kernel_rfl) (by kernel_rfl) (by kernel_rfl) (e:=Extern.AbiNoEscape.same) (by kernel_rfl)]
 rw[Lib.run_noEscape]
 simp only[Result.andThen]
 rw[ai8]
 go_wp2
 rw[Lib.run_from_unsafe w ⟨b,0,none⟩ Tryz.underlying273 Tryz.underlying106 hj hsh (Tryz.Builder_Extra_169.liesBuilder)]
 simp only[Result.andThen]
 rw[ai8]
 go_wp2
 go_end0
 exact⟨rfl,rfl⟩
theorem X7 {b:Nat}{bs:List Value}{w:World}(h:Lib.IsBuilderF tB tU b b bs w):
  Calls Tryz.prog 196 #[.pointer (some ⟨b,0,none⟩)] w λe w'=>e=.returned (.tuple #[])/\Lib.BuilderAtF tB tU b b (.pointer (some ⟨b,0,none⟩)) bs w'/\Below b w w'/\Lib.OthersKept tU (some b) w w':=by
 rcases h with h|h
 ·refine(SE b w h.cell0 h.shape h.frozen0).mono ?_
  rintro e w' ⟨rfl,rfl⟩
  exact⟨rfl,h.used _,(ahE b w).setCell (p:=⟨b,0,none⟩) h.1 _,(Lib.OthersKept.refl _ _ w).setCell ⟨b,0,none⟩ rfl _⟩
 ·refine(TY b w h.cell0).mono ?_
  rintro e w' ⟨rfl,rfl⟩
  exact⟨rfl,h,ahE b _,Lib.OthersKept.refl _ _ _⟩
theorem QU {b:Nat}{l:List UInt8}(c:UInt8){w:World}(h:Bld tB tU b l w)(hlen:l.length+1<=140737488355328):
  Calls Tryz.prog 157 #[.pointer (some ⟨b,0,none⟩),.int .u8 c.toNat] w λe w'=>e=.returned .nilIface/\Bld tB tU b (l++[c]) w'/\Wrote tU b w w':=by
 have hBw:b<=w.heap.size:=afk h.lt
 have hlen2:(Lib.byteCells l).length+1<=140737488355328:=by rw[Lib.byteCells_length l];exact hlen
 clear hlen
 have hbc:Lib.byteCells (l++[c])=Lib.byteCells l++[.int .u8 c.toNat]:=Lib.byteCells_append l [c]
 unfold Bld at h |-
 rw[hbc]
 generalize Lib.byteCells l=bs at *
 generalize (c.toNat:Int)=c at *
 obtain⟨i0,hi,hz0,hz1,hz2⟩:=ahS Tryz.Builder_Extra_169.infoByte
 go_enter Tryz.func157,Tryz.ntmps157
 go_wp2_with (go_at_call 196;refine(X7 h).mono ?_)
 rintro e w1 ⟨rfl,h1,hb1,hk1⟩
 obtain⟨hB,v,hbk,hown,hne⟩:=h1
 have c0:w1.cell? ⟨b,0,none⟩=some (.pointer (some ⟨b,0,none⟩)):=by rw[Lib.cell_of_heap hbk];rfl
 have c1:w1.cell? ⟨b,1,none⟩=some v:=by rw[Lib.cell_of_heap hbk];rfl
 go_wp2_with (at_builtin;refine wpList_append_ownF _ rfl _ _ 50 rfl b tU i0 (.int .u8 0) 1 1 Tryz.underlying50 hi hz0 hz1 hz2 rfl (by decide) _ _ _ rfl (hown.alloc _) ⟨w1.heap.size,0,none⟩ 1 1 [.int .u8 c] rfl rfl ?c1 ?c2 ?c3 ?c4 ?c5 ?_)
 case c1=>
  intro j u hj
  match j,hj with
  |0,hj=>simp at hj;subst hj;simp[Addr.add]
 case c2=>intro u hu;simp at hu;subst hu;rfl
 case c3=>unfold maxLen;omega
 case c4=>omega
 case c5=>have:=hb1.size;simp;omega
 intro v' w2 hown' hgrow _
 have hlt:b<w1.heap.size:=(aeN.1 hbk).1
 have hb2:w2.heap[b]? =some (.cells #[.pointer (some ⟨b,0,none⟩),v] tB (0,0)):=by
  rw[hgrow.block b (by simp;omega) (λe=>hne e.symm),Lib.alloc_old w1 _ b hlt]
  exact hbk
 have d0:w2.cell? ⟨b,0,none⟩=some (.pointer (some ⟨b,0,none⟩)):=by rw[Lib.cell_of_heap hb2];rfl
 have d1:w2.cell? ⟨b,1,none⟩=some v:=by rw[Lib.cell_of_heap hb2];rfl
 have f1:w2.frozen? ⟨b,1,none⟩=false:=Lib.frozen_of_heap hb2 1
 obtain⟨g,cap,rfl⟩:∃g cap,v'=.slice (some ⟨g,0,none⟩) (bs.length+1) cap:=by
  rcases hown'.2 with⟨_,h0⟩|⟨g,cap,cur,fz,hv,_⟩
  ·omega
  ·exact⟨g,cap,hv⟩
 go_wp2
 go_ret
 refine⟨rfl,.inr ?_,?_,((hk1.alloc _).grown hgrow (Lib.ownsRowF_kind (hown.alloc _))).setCell ⟨b,1,none⟩ rfl _⟩
 ·exact Lib.BuilderAtF.put (T:=tB) (e:=tU) hB hb2 (bs':=bs++[.int .u8 c]) (by simpa using hown') Tryz.Builder_Extra_169.neB5
 ·exact((hb1.alloc (by have:=hb1.size;omega) _).grown hgrow (by have:=hb1.size;simp;omega) (λk hk=>(hown.lt k hk).1)).setCell (p:=⟨b,1,none⟩) hB _
theorem JZ {b:Nat}{l:List UInt8}(m:List UInt8){w:World}(h:Bld tB tU b l w)(hlen:l.length+m.length<=140737488355328):
  Calls Tryz.prog 156 #[.pointer (some ⟨b,0,none⟩),.string ⟨m.toArray⟩] w λe w'=>(∃v,e=.returned v)/\Bld tB tU b (l++m) w'/\Wrote tU b w w':=by
 have hBw:b<=w.heap.size:=afk h.lt
 have hlen2:(Lib.byteCells l).length+m.length<=140737488355328:=by rw[Lib.byteCells_length l];exact hlen
 clear hlen
 have hbc:Lib.byteCells (l++m)=Lib.byteCells l++Lib.strCells ⟨m.toArray⟩:=by rw[ZI];exact Lib.byteCells_append l m
 have hsz:(⟨m.toArray⟩:ByteArray).size=m.length:=by simp[ByteArray.size]
 rw[<-hsz]at hlen2
 clear hsz
 unfold Bld at h |-
 rw[hbc]
 generalize (⟨m.toArray⟩:ByteArray)=s at *
 generalize Lib.byteCells l=bs at *
 obtain⟨i0,hi,hz0,hz1,hz2⟩:=ahS Tryz.Builder_Extra_169.infoByte
 go_enter Tryz.func156,Tryz.ntmps156
 go_wp2_with (go_at_call 196;refine(X7 h).mono ?_)
 rintro e w1 ⟨rfl,h1,hb1,hk1⟩
 obtain⟨hB,v,hbk,hown,hne⟩:=h1
 have c0:w1.cell? ⟨b,0,none⟩=some (.pointer (some ⟨b,0,none⟩)):=by rw[Lib.cell_of_heap hbk];rfl
 have c1:w1.cell? ⟨b,1,none⟩=some v:=by rw[Lib.cell_of_heap hbk];rfl
 go_wp2_with (at_builtin;refine Lib.wpList_append_own_stringF _ rfl _ _ 50 9 rfl b tU i0 Tryz.underlying50 Tryz.underlying9 hi hz0 hz1 hz2 _ _ _ rfl hown s rfl ?c3 ?c4 ?c5 ?_)
 case c3=>unfold maxLen;omega
 case c4=>omega
 case c5=>have:=hb1.size;omega
 intro v' w2 hown' hgrow _
 have hlt:b<w1.heap.size:=(aeN.1 hbk).1
 have hb2:w2.heap[b]? =some (.cells #[.pointer (some ⟨b,0,none⟩),v] tB (0,0)):=by
  rw[hgrow.block b hlt (λe=>hne e.symm)]
  exact hbk
 have d0:w2.cell? ⟨b,0,none⟩=some (.pointer (some ⟨b,0,none⟩)):=by rw[Lib.cell_of_heap hb2];rfl
 have d1:w2.cell? ⟨b,1,none⟩=some v:=by rw[Lib.cell_of_heap hb2];rfl
 have f1:w2.frozen? ⟨b,1,none⟩=false:=Lib.frozen_of_heap hb2 1
 obtain⟨ao,n',cap,rfl⟩:∃ao n' cap,v'=.slice ao n' cap:=by
  rcases hown'.2 with⟨hv,_⟩|⟨g,cap,cur,fz,hv,_⟩
  ·exact⟨_,_,_,hv⟩
  ·exact⟨_,_,_,hv⟩
 go_wp2
 go_ret2
 refine⟨⟨_,rfl⟩,.inr ?_,?_,(hk1.grown hgrow (Lib.ownsRowF_kind hown)).setCell ⟨b,1,none⟩ rfl _⟩
 ·exact Lib.BuilderAtF.put (T:=tB) (e:=tU) hB hb2 (bs':=bs++Lib.strCells s) (by simpa[Lib.strCells_length]using hown') Tryz.Builder_Extra_169.neB5
 ·exact(hb1.grown hgrow (by have:=hb1.size;omega) (λk hk=>(hown.lt k hk).1)).setCell (p:=⟨b,1,none⟩) hB _
end bld
open Go.RowKit Am loan
section
variable {P:Program} {ops:Array Oper} {Q:Exit->Act->World->Prop}
def Cells (L:List Addr)(w w':World):Prop:=∀p∈L,w'.cell? p=w.cell? p
theorem Cells.get {L:List Addr}{w w':World}{p:Addr}{u:Value}(h:Cells L w w')(hp:p∈L)(hc:w.cell? p=some u):w'.cell? p=some u:=(h p hp).trans hc
theorem Cells.refl (L:List Addr)(w:World):Cells L w w:=λ_ _=>rfl
theorem Cells.nM {L:List Addr}{w w':World}(h:Below w.heap.size w w')(hL:∀p∈L,p.block<w.heap.size):Cells L w w':=λp hp=>h.cell (p:=p) (hL p hp)
theorem bH (L:List Addr){id:Nat}{a:Act}{w:World}(r:List (Nat×Bool))(hm:P.follows .mixedOrders=true)(hs:Region.noSelect ops=true)(hlen:r.length<=ops.size)(hok:wu .any ops r (aib ops.size false)=true)
  (hQ:∀(d:Tmp) (v:Value) c a w,Q (.panic c) (a.put (some d) v) w->Q (.panic c) a w) (h:uP P ops Q (Cells L) r a w.drew):(Code.region id ops true).wp P Q a w:=
 ai4 hm (vV _ _ _ _ (Jh (λw=>Cells.refl L w) (λ_ _ _ h k p hp=>(k p hp).trans (h p hp)) hs (λd v c a w h=>match d,h with |none,h=>h|some d,h=>hQ d v c a w h) r _ _ _ _ hlen hok h))
theorem SeqC.take {L:List Addr}{i:Nat}{o:Oper}{r:List (Nat×Bool)}{a:Act}{w:World}{v:Value}(ho:ops.toList[i]? =some o)(hw:Region.wanted o (yielded ops a.tmps)=true)(hrun:∀W,Cells L w W->(execOp a.eval o).run P W=.ok (.value v) W)
  (h:uP P ops Q (Cells L) r (a.put o.dst v) w):uP P ops Q (Cells L) ((i,true)::r) a w:=⟨o,v,kZ ho,.inl ⟨hw,hrun⟩,h⟩
theorem SeqC.skip {L:List Addr}{i:Nat}{o:Oper}{r:List (Nat×Bool)}{a:Act}{w:World}(ho:ops.toList[i]? =some o)(hw:Region.wanted o (yielded ops a.tmps)=false)
  (h:uP P ops Q (Cells L) r (a.put o.dst undef) w):uP P ops Q (Cells L) ((i,true)::r) a w:=⟨o,undef,kZ ho,.inr ⟨hw,rfl⟩,h⟩
theorem SeqC.pass {L:List Addr}{i:Nat}{o:Oper}{r:List (Nat×Bool)}{a:Act}{w:World}(ho:ops.toList[i]? =some o)(hw:Region.wanted o (yielded ops a.tmps)=false)
  (h:uP P ops Q (Cells L) r (a.put o.dst undef) w):uP P ops Q (Cells L) ((i,false)::r) a w:=
 ahW (kZ ho) λK' hK=>by rw[hw];exact hK _ _ ⟨Cells.refl _ _,h⟩
theorem SeqC.step {L:List Addr}{i:Nat}{o:Oper}{r:List (Nat×Bool)}{a:Act}{w:World}(ho:ops.toList[i]? =some o)(hw:Region.wanted o (yielded ops a.tmps)=true)
  (h:∀K':Act->World->Prop,(∀a w',Cells L w w'->uP P ops Q (Cells L) r a w'->K' a w')->Oper.wp P o a w K' Q):uP P ops Q (Cells L) ((i,false)::r) a w:=
 ahW (kZ ho) λK' hK=>by rw[hw];exact h K' λa w' he hs=>hK a w' ⟨he,hs⟩
theorem SeqC.val {L:List Addr}{i:Nat}{o:Oper}{r:List (Nat×Bool)}{a:Act}{w w':World}{v:Value}(ho:ops.toList[i]? =some o)(hw:Region.wanted o (yielded ops a.tmps)=true)
  (hrun:(execOp a.eval o).run P w=.ok (.value v) w') (he:Cells L w w') (h:uP P ops Q (Cells L) r (a.put o.dst v) w'):uP P ops Q (Cells L) ((i,false)::r) a w:=
 SeqC.step ho hw λK' hK=>by
  unfold Oper.wp
  rw[hrun]
  simp only[Oper.upon]
  exact hK _ _ he h
theorem SeqC.call {L:List Addr}{i:Nat}{o:Oper}{r:List (Nat×Bool)}{a:Act}{w:World}{f:FuncId}{args:Array Value}(ho:ops.toList[i]? =some o)(hw:Region.wanted o (yielded ops a.tmps)=true)
  (hrun:(execOp a.eval o).run P w=.ok (.enter f args) w) (h:Calls P f args w λe w'=>∃v,e=.returned v/\Cells L w w'/\uP P ops Q (Cells L) r (a.put o.dst v) w'):uP P ops Q (Cells L) ((i,false)::r) a w:=
 SeqC.step ho hw λK' hK=>by
  unfold Oper.wp
  rw[hrun]
  simp only[Oper.upon]
  refine h.mono ?_
  rintro e w' ⟨v,rfl,he,hs⟩
  exact hK _ _ he hs
theorem SeqC.done {L:List Addr}{a:Act}{w:World}(h:Q .normal a w):uP P ops Q (Cells L) [] a w:=h
end
namespace txt
open bld
abbrev tS1:TypeId:=9
abbrev tPB:TypeId:=106
def Wr (b:Nat)(l:List UInt8)(W:World)(e:Ending)(W':World):Prop:=e=.returned (.tuple #[])/\Bld tB tU b l W'/\Wrote tU b W W'
theorem aeu {b:Nat}{l:List UInt8}{w:World}(h:Bld tB tU b l w)(hlen:l.length+1<=140737488355328):
  Calls Tryz.prog 157 #[.pointer (some ⟨b,0,none⟩),.int .u8 10] w λe w'=>e=.returned .nilIface/\Bld tB tU b (l++[10]) w'/\Wrote tU b w w':=QU 10 h hlen
theorem oP {l:List (List UInt8)}{i:Nat}{s:List UInt8}(h:l[i]? =some s):(l.take i).flatten.length+s.length<=l.flatten.length:=by
 have h1:l.flatten=(l.take (i+1)).flatten++(l.drop (i+1)).flatten:=by rw[<-ah3,agc]
 have h2:l.take (i+1)=l.take i++[s]:=by rw[ag6,h];rfl
 rw[h1,h2,ah3]
 simp only[aeL,afP,agH,aft]
 omega
theorem NG {b:Nat}{acc:List UInt8}{A:Option Addr}{c:Nat}{parts:List (List UInt8)}{w:World}(h:Bld tB tU b acc w)(hp:qo w b tU A parts)(hlen:acc.length+parts.flatten.length+1<=140737488355328)(hn:(parts.length:Int)<=1000):
  Calls Tryz.prog 100 #[.pointer (some ⟨b,0,none⟩),.slice A parts.length c] w (Wr b (acc++(parts.flatten++[10])) w):=by
 have HP:=Lib.hid hp
 have HB:=Lib.hid h
 clear hp h
 go_enter Tryz.func100,Tryz.ntmps100
 go_wp2
 go_loopg [8] parts.length (λg s8 wr=>∃i:Nat,s8=.int .i64 i/\i<=parts.length/\g=parts.length-i/\Bld tB tU b (acc++(parts.take i).flatten) wr/\Wrote tU b w wr)
 case atStart=>exact⟨0,rfl,afb _,rfl,by simpa using HB.out,.refl _ _ _⟩
 case round=>
  obtain⟨i,rfl,hi,rfl,hb,hw⟩:=hrel
  have h0I:(0:Int)<=(i:Int):=afa _
  have HW:=Lib.hid hw
  have HBI:=Lib.hid hb
  have hp:=HP.out.wrote hw
  clear hw hb
  rcases afp i parts.length with hlt|hge
  ·have hltI:(i:Int)<(parts.length:Int):=by omega
   obtain⟨s,hs⟩:∃s,parts[i]? =some s:=⟨_,aeK hlt⟩
   obtain⟨g,o,eA,hc⟩:=hp.cell hs
   subst eA
   have hfl:=oP hs
   have HS:=Lib.hid hs
   clear hs hp
   go_wp2_with (go_at_call 156;refine(JZ s HBI.out (by rw[aeL];omega)).mono ?_;rintro e w2 ⟨⟨v,rfl⟩,hb2,hw2⟩)
   go_roundg (parts.length-(i+1))
   case measure=>omega
   case rel=>
    refine⟨i+1,by simp,by omega,rfl,?_,HW.out.trans hw2⟩
    rw[ag6,HS.out,ah3]
    simpa using hb2
  ·obtain rfl:i=parts.length:=by omega
   have hl2:=HBI.out
   rw[afq]at hl2
   have HL:=Lib.hid hl2
   clear hl2 hp
   go_wp2_with (go_at_call 157;refine(aeu HL.out (by rw[aeL];omega)).mono ?_;rintro e w2 ⟨rfl,hb2,hw2⟩)
   go_end0
   exact⟨rfl,by rw[<-af9];exact hb2,HW.out.trans hw2⟩
theorem acw {b X:Nat}{acc m:List UInt8}{w:World}(h:Bld tB tU b acc w)(hX:w.heap[X]? =some (.cells #[.pointer (some ⟨b,0,none⟩)] tPB (0,0)))(hlen:acc.length+m.length<=100000000000):
  Calls Tryz.prog 102 #[.string ⟨m.toArray⟩,.int .i64 0,.pointer (some ⟨X,0,none⟩)] w (Wr b (acc++(([32,32]++m)++[10])) w):=by
 have hc:w.cell? ⟨X,0,none⟩=some (.pointer (some ⟨b,0,none⟩)):=by rw[ahF w X 0 _ tPB (0,0) hX];rfl
 have HB:=Lib.hid h
 have hbl:=h.lt
 clear h hX
 go_enter Tryz.func102,Tryz.ntmps102
 have hb1:Below w.heap.size w (w.alloc (.cells #[.string ⟨#[32,32]⟩,.string ⟨m.toArray⟩] tS1)):=(ahE _ _).alloc (aeM _) _
 have HL:=Lib.hid (NG (c:=2) (parts:=[[32,32],m]) (HB.out.below hb1) (qo.new (b:=b) (t:=tS1) (l:=[[32,32],m]) (ahw hbl) (by decide) (ay rfl)) (by simp;omega) (by simp))
 have HW:=Lib.hid (Wrote.of_below (e:=tU) hb1 (afk hbl))
 clear hb1
 go_wp2_with (go_at_call 100;refine HL.out.mono ?_;rintro e w2 ⟨rfl,hb2,hw2⟩)
 go_end0
 exact⟨rfl,by simpa using hb2,HW.out.trans hw2⟩
end txt
section
variable {P:Program} {ops:Array Oper} {Q:Exit->Act->World->Prop} {L:List Addr}
theorem Cells.trans {L:List Addr}{x y z:World}(h:Cells L x y)(k:Cells L y z):Cells L x z:=λp hp=>(k p hp).trans (h p hp)
abbrev iK (P:Program)(ops:Array Oper)(Q:Exit->Act->World->Prop)(L:List Addr):Nat->Array Bool->Act->World->Prop:=Au P .any ops Q (Cells L)
theorem F7 (L:List Addr){id:Nat}{a:Act}{w:World}(hm:P.follows .mixedOrders=true)(h:iK P ops Q L ops.size (aib ops.size false) a w.drew):(Code.region id ops true).wp P Q a w:=
 ai4 hm (vV _ _ _ _ h)
theorem iK.take {i fuel:Nat}{o:Oper}{listed:Array Bool}{a:Act}{w:World}{v:Value}(hs:Region.noSelect ops=true)(ho:ops.toList[i]? =some o)(hf:Region.free .any ops listed i=true)(hr:(Region.ready .any ops listed).contains i=true)
  (hQ:∀(d:Tmp) (v:Value) c a w,Q (.panic c) (a.put (some d) v) w->Q (.panic c) a w) (hw:Region.wanted o (yielded ops a.tmps)=true) (hrun:∀W,Cells L w W->(execOp a.eval o).run P W=.ok (.value v) W)
  (h:iK P ops Q L fuel (listed.setIfInBounds i true) (a.put o.dst v) w):iK P ops Q L (fuel+1) listed a w:=
 wo (λ_=>Cells.refl _ _) (λ_ _ _=>Cells.trans) (kZ ho) (ai2 hs) (λc a w h=>match o.dst,h with |none,h=>h|some d,h=>hQ d v c a w h) fuel listed a w (ai7 (kZ ho) hf) (by simpa using hr) (.inl ⟨hw,hrun⟩) h
theorem iK.all {rs:List Nat}{fuel:Nat}{listed:Array Bool}{a:Act}{w:World}(hr:Region.ready .any ops listed=rs)(hne:rs.isEmpty=false)
  (h:∀i∈rs,wpOp P ops Q i (λa' w'=>Cells L w w'/\iK P ops Q L fuel (listed.setIfInBounds i true) a' w') a w):iK P ops Q L (fuel+1) listed a w:=
 ⟨λh0=>by rw[hr]at h0;subst h0;simp at hne,by rw[hr];exact h⟩
theorem iK.one {i fuel:Nat}{listed:Array Bool}{a:Act}{w:World}(hr:Region.ready .any ops listed=[i])
  (h:wpOp P ops Q i (λa' w'=>Cells L w w'/\iK P ops Q L fuel (listed.setIfInBounds i true) a' w') a w):iK P ops Q L (fuel+1) listed a w:=
 iK.all hr rfl λj hj=>by rw[aeR.1 hj];exact h
theorem iK.done {listed:Array Bool}{a:Act}{w:World}(hr:Region.ready .any ops listed=[])(h:Q .normal a w):iK P ops Q L 0 listed a w:=⟨hr,h⟩
theorem cVal {i:Nat}{o:Oper}{a:Act}{w w':World}{v:Value}{R:Act->World->Prop}(ho:ops.toList[i]? =some o)(hw:Region.wanted o (yielded ops a.tmps)=true)
  (hrun:(execOp a.eval o).run P w=.ok (.value v) w') (he:Cells L w w') (h:R (a.put o.dst v) w'):wpOp P ops Q i (λa' w'=>Cells L w w'/\R a' w') a w:=
 ahW (kZ ho) λK' hK=>by
  rw[hw]
  show Oper.wp P o a w K' Q
  unfold Oper.wp
  rw[hrun]
  simp only[Oper.upon]
  exact hK _ _ ⟨he,h⟩
theorem Xf {i:Nat}{o:Oper}{a:Act}{w w':World}{R:Act->World->Prop}(ho:ops.toList[i]? =some o)(hw:Region.wanted o (yielded ops a.tmps)=true)
  (hrun:(execOp a.eval o).run P w=.ok .skip w') (he:Cells L w w') (h:R (a.put o.dst undef) w'):wpOp P ops Q i (λa' w'=>Cells L w w'/\R a' w') a w:=
 ahW (kZ ho) λK' hK=>by
  rw[hw]
  show Oper.wp P o a w K' Q
  unfold Oper.wp
  rw[hrun]
  simp only[Oper.upon]
  exact hK _ _ ⟨he,h⟩
theorem Xk {i:Nat}{o:Oper}{a:Act}{w:World}{R:Act->World->Prop}{f:FuncId}{args:Array Value}(ho:ops.toList[i]? =some o)(hw:Region.wanted o (yielded ops a.tmps)=true)
  (hrun:(execOp a.eval o).run P w=.ok (.enter f args) w) (h:Calls P f args w λe w'=>∃v,e=.returned v/\Cells L w w'/\R (a.put o.dst v) w'):wpOp P ops Q i (λa' w'=>Cells L w w'/\R a' w') a w:=
 ahW (kZ ho) λK' hK=>by
  rw[hw]
  show Oper.wp P o a w K' Q
  unfold Oper.wp
  rw[hrun]
  simp only[Oper.upon]
  refine h.mono ?_
  rintro e w' ⟨v,rfl,he,hs⟩
  exact hK _ _ ⟨he,hs⟩
theorem a7H {i:Nat}{o:Oper}{a:Act}{w:World}{R:Act->World->Prop}(ho:ops.toList[i]? =some o)(hw:Region.wanted o (yielded ops a.tmps)=true)
  (s x:Operand) (base:Nat) (t e:TypeId) (z:Value) (size bytes:Nat) (hop:o.op=.call { callee:=.builtin .append,args:=#[s,x],argTypes:=#[t,t] }) (ht:P.underlying t=some (.slice e)) (hrow:(P.info? e).map (λi=>(i.zero,i.size,i.bytes))=some (some z,size,bytes)) (hzs:z.cells.size=size) (hsz:0<size)
  {v:Value} {n:Nat} {xs:List Value} (hs:a.eval s=v) (hown:w.ownsRow base e size v n xs) {sv:Value} {els:List (List Value)} (hx:a.eval x=sv) (hl:bT w sv size els) (h1:∀el∈els,∀u∈el,u.oneCell'=true)
  (h63:n+els.length<=1000000) (hby:bytes<=1000000) (hbase:base<=w.heap.size) (hf:0<els.length) (hL:∀p∈L,p.block<w.heap.size/\v.ownBlock≠some p.block)
  (h:∀g cap w',w'.ownsRow base e size (.slice (some ⟨g,0,none⟩) (n+els.length) cap) (n+els.length) (xs++els.flatten)->w.grownBy w' v.ownBlock->R (a.put o.dst (.slice (some ⟨g,0,none⟩) (n+els.length) cap)) w'):wpOp P ops Q i (λa' w'=>Cells L w w'/\R a' w') a w:=by
 obtain⟨v',w',hrun,r1,r2,_,r5⟩:=Fq (P:=P) (w:=w) base t o.type e z size bytes ht hrow hzs hsz v n xs hown hl h1 h63 hby hbase
 obtain⟨g,cap,rfl⟩:∃g cap,v'=.slice (some ⟨g,0,none⟩) (n+els.length) cap:=by
  rcases r1.2 with⟨rfl,h0⟩|⟨g,cap,cur,hv,_,hg,_⟩
  ·omega
  ·exact⟨g,cap,hv⟩
 refine cVal (v:=.slice (some ⟨g,0,none⟩) (n+els.length) cap) (w':=w') ho hw ?_ (λp hp=>?_) (h g cap w' r1 r2)
 ·simp[execOp,hop,resolve,invoke,builtin,hs,hx,hrun,Result.andThen]
 ·exact r2.cell_far p (hL p hp).1 (λe=>(hL p hp).2 e.symm)
