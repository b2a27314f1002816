/- slices.IndexFunc, slices.ContainsFunc and program.all, at types, functions and blocks, by what the asked function answers. -/
import Derived.Test.YtnhnelgkcldkbaaGreatDoorTextN
set_option linter.all false
set_option maxHeartbeats 4000000
set_option maxRecDepth 100000
namespace Go.Proofs.YtnhnelgkcldkbaaGreatDoor
namespace prg
open Go.RowKit Am loan bld
abbrev tTy:TypeId:=88
abbrev tFn:TypeId:=40
abbrev tBk:TypeId:=99
theorem tyR:(Tryz.prog.info? 88).map (·.size)=some 2:=by kernel_rfl
theorem fnR:(Tryz.prog.info? 40).map (·.size)=some 4:=by kernel_rfl
theorem bkR:(Tryz.prog.info? 99).map (·.size)=some 14:=by kernel_rfl
def ae3 (t:Bool)(W:World)(e:Ending)(W':World):Prop:=∃r:Int,e=.returned (.int .i64 r)/\decide (r>=0)=t/\Below W.heap.size W W'
theorem xR {α:Type}{l:List α}{t:α->Bool}{i:Nat}{x:α}(h:l[i]? =some x)(h0:(l.take i).any t=false):(l.take (i+1)).any t=t x:=by
 rw[ag6,h,List.any_append,h0]
 simp
theorem a0u {α:Type}{l:List α}{t:α->Bool}{i:Nat}{x:α}(h:l[i]? =some x)(ht:t x=true):l.any t=true:=agk.2 ⟨x,aeY h,ht⟩
def V3 (I C L P K:Nat)(T TF:TypeId)(sz:Nat)(cap:List Value):Prop:=
 (I=193/\C=150/\L=94/\P=151/\K=95/\T=tTy/\TF=163/\sz=2/\cap=[])\/(I=194/\C=152/\L=96/\P=153/\K=97/\T=tFn/\TF=100/\sz=4/\∃Y:Nat,cap=[.pointer (some ⟨Y,0,none⟩)])\/(I=195/\C=154/\L=98/\P=155/\K=93/\T=tBk/\TF=161/\sz=14/\∃Y:Nat,cap=[.pointer (some ⟨Y,0,none⟩)])
theorem v3T:V3 193 150 94 151 95 tTy 163 2 []:=Or.inl ⟨rfl,rfl,rfl,rfl,rfl,rfl,rfl,rfl,rfl⟩
theorem v3F {Y:Nat}:V3 194 152 96 153 97 tFn 100 4 [.pointer (some ⟨Y,0,none⟩)]:=Or.inr (Or.inl ⟨rfl,rfl,rfl,rfl,rfl,rfl,rfl,rfl,Y,rfl⟩)
theorem v3B {Y:Nat}:V3 195 154 98 155 93 tBk 161 14 [.pointer (some ⟨Y,0,none⟩)]:=Or.inr (Or.inr ⟨rfl,rfl,rfl,rfl,rfl,rfl,rfl,rfl,Y,rfl⟩)
theorem ael {I C L P K:Nat}{T TF:TypeId}{sz:Nat}{cap:List Value}(hd:V3 I C L P K T TF sz cap){w:World}{A:Option Addr}{c X:Nat}{α:Type}{xs:List α}{f:α->List Value}{t:α->Bool}(hr:dR w A sz (xs.map f))(hn:xs.length<=1000)(hl:∀x∈xs,(f x).length=sz)
  (hP:∀x∈xs,∀W,Below w.heap.size w W->Calls Tryz.prog P #[.agg (f x).toArray,.pointer (some ⟨X,0,none⟩)] W (bld.Ans W (.bool (t x)))):
  Calls Tryz.prog I #[.slice A xs.length c,.func (.func P) #[] #[.pointer (some ⟨X,0,none⟩)]] w (ae3 (xs.any t) w):=by
 have HR:=Lib.hid hr
 have HP:=Lib.hid hP
 have HL:=Lib.hid hl
 clear hr hP hl
 rcases hd with⟨rfl,rfl,rfl,rfl,rfl,rfl,rfl,rfl,rfl⟩|⟨rfl,rfl,rfl,rfl,rfl,rfl,rfl,rfl,Y,rfl⟩|⟨rfl,rfl,rfl,rfl,rfl,rfl,rfl,rfl,Y,rfl⟩
 case' inl=>have hR:=tyR;have hu:=Tryz.underlying88;go_enter Tryz.func193,Tryz.ntmps193
 case' inr.inl=>have hR:=fnR;have hu:=Tryz.underlying40;go_enter Tryz.func194,Tryz.ntmps194
 case' inr.inr=>have hR:=bkR;have hu:=Tryz.underlying99;go_enter Tryz.func195,Tryz.ntmps195
 all_goals(
  go_wp2_with fail
  go_loopg [8] xs.length (λg s8 w8=>∃i:Nat,s8=.int .i64 i/\i<=xs.length/\g=xs.length-i/\(xs.take i).any t=false/\Below w.heap.size w w8)
  case atStart=>exact⟨0,rfl,afb _,rfl,rfl,ahE _ _⟩
  case round=>
   obtain⟨i,rfl,hi,rfl,hno,hbel⟩:=hrel
   have h0I:(0:Int)<=(i:Int):=afa _
   have HB:=Lib.hid hbel
   have HNO:=Lib.hid hno
   clear hbel hno
   rcases afp i xs.length with hlt|hge
   ·have hltI:(i:Int)<(xs.length:Int):=by omega
    obtain⟨x,hel⟩:∃x,xs[i]? =some x:=⟨_,aeK hlt⟩
    have hlen:=HL.out x (aeY hel)
    obtain⟨g,o,eA,hg,hc⟩:=(HR.out.below HB.out) i (f x) (by rw[aeT,hel];rfl)
    subst eA
    have HC:=Lib.hid hc
    have HE:=Lib.hid hel
    have HPE:=Lib.hid (HP.out x (aeY hel))
    clear hc hel
    cases ht:t x with
    |true=>
     have HT:=Lib.hid ht
     rw[ht]at HPE
     clear ht
     go_wp2_with (first |(refine wpList_load_mid rfl _ _ rfl g _ rfl (f x) _ HC.out hu rfl (by rw[hlen];exact hR) ?_)|((first |go_at_call 151|go_at_call 153|go_at_call 155);refine(HPE.out _ HB.out).mono ?_;rintro e w2 ⟨rfl,b2⟩))
     go_ret
     exact⟨(i:Int),rfl,by rw[a0u HE.out HT.out];exact afn (by omega),HB.out.trans (b2.mono HB.out.size)⟩
    |false=>
     have HT:=Lib.hid ht
     rw[ht]at HPE
     clear ht
     go_wp2_with (first |(refine wpList_load_mid rfl _ _ rfl g _ rfl (f x) _ HC.out hu rfl (by rw[hlen];exact hR) ?_)|((first |go_at_call 151|go_at_call 153|go_at_call 155);refine(HPE.out _ HB.out).mono ?_;rintro e w2 ⟨rfl,b2⟩))
     go_roundg (xs.length-(i+1))
     case measure=>omega
     case rel=>exact⟨i+1,by simp,by omega,rfl,(xR HE.out HNO.out).trans HT.out,HB.out.trans (b2.mono HB.out.size)⟩
   ·obtain rfl:i=xs.length:=by omega
    rw[afq]at HNO
    go_wp2_with fail
    go_ret
    exact⟨-1,rfl,by rw[HNO.out];rfl,HB.out⟩)
theorem aeb {I C L P K:Nat}{T TF:TypeId}{sz:Nat}{cap:List Value}(hd:V3 I C L P K T TF sz cap){w:World}{A:Option Addr}{c X:Nat}{α:Type}{xs:List α}{f:α->List Value}{t:α->Bool}(hr:dR w A sz (xs.map f))(hn:xs.length<=1000)(hl:∀x∈xs,(f x).length=sz)
  (hP:∀x∈xs,∀W,Below w.heap.size w W->Calls Tryz.prog P #[.agg (f x).toArray,.pointer (some ⟨X,0,none⟩)] W (bld.Ans W (.bool (t x)))):
  Calls Tryz.prog C #[.slice A xs.length c,.func (.func P) #[] #[.pointer (some ⟨X,0,none⟩)]] w (bld.Ans w (.bool (xs.any t))):=by
 have H:=Lib.hid (ael hd (c:=c) hr hn hl hP)
 clear hr hn hl hP
 generalize xs.any t=b at *
 rcases hd with⟨rfl,rfl,rfl,rfl,rfl,rfl,rfl,rfl,rfl⟩|⟨rfl,rfl,rfl,rfl,rfl,rfl,rfl,rfl,Y,rfl⟩|⟨rfl,rfl,rfl,rfl,rfl,rfl,rfl,rfl,Y,rfl⟩
 case' inl=>have hR:=tyR;have hu:=Tryz.underlying88;go_enter Tryz.func150,Tryz.ntmps150
 case' inr.inl=>have hR:=fnR;have hu:=Tryz.underlying40;go_enter Tryz.func152,Tryz.ntmps152
 case' inr.inr=>have hR:=bkR;have hu:=Tryz.underlying99;go_enter Tryz.func154,Tryz.ntmps154
 all_goals(
  go_wp2_with ((first |go_at_call 193|go_at_call 194|go_at_call 195);refine H.out.mono ?_;rintro e w1 ⟨r,rfl,rfl,b1⟩)
  go_ret
  exact⟨rfl,b1⟩)
theorem adV {I C L P K:Nat}{T TF:TypeId}{sz:Nat}{cap:List Value}(hd:V3 I C L P K T TF sz cap){w:World}{X:Nat}{el:List Value}{b:Bool}(hlen:el.length=sz)(hX:w.cell? ⟨X,0,none⟩=some (.func (.func K) #[] cap.toArray))(hlt:X<w.heap.size)
  (hP:∀W,Below w.heap.size w W->Calls Tryz.prog K (.agg el.toArray::cap).toArray W (bld.Ans W (.bool b))):
  Calls Tryz.prog P #[.agg el.toArray,.pointer (some ⟨X,0,none⟩)] w (bld.Ans w (.bool (!b))):=by
 have HP:=Lib.hid hP
 have b0:Below w.heap.size w (w.alloc (.cells el.toArray T)):=(ahE _ _).alloc (aeM _) _
 have c0:=(b0.cell (p:=⟨X,0,none⟩) hlt).trans hX
 have hr:(w.alloc (.cells el.toArray T)).rangeAt w.heap.size 0 el:=λj u hj=>by
  rw[afK,ahF _ w.heap.size j _ T (0,0) (ay rfl)]
  simpa using hj
 have HR:=Lib.hid hr
 have HB:=Lib.hid b0
 clear hP hX hr b0
 rcases hd with⟨rfl,rfl,rfl,rfl,rfl,rfl,rfl,rfl,rfl⟩|⟨rfl,rfl,rfl,rfl,rfl,rfl,rfl,rfl,Y,rfl⟩|⟨rfl,rfl,rfl,rfl,rfl,rfl,rfl,rfl,Y,rfl⟩
 case' inl=>have hR:=tyR;have hu:=Tryz.underlying88;go_enter Tryz.func151,Tryz.ntmps151
 case' inr.inl=>have hR:=fnR;have hu:=Tryz.underlying40;go_enter Tryz.func153,Tryz.ntmps153
 case' inr.inr=>have hR:=bkR;have hu:=Tryz.underlying99;go_enter Tryz.func155,Tryz.ntmps155
 all_goals(
  go_wp2_with (first |(refine wpList_load_mid rfl _ _ rfl w.heap.size 0 rfl el _ HR.out hu rfl (by rw[hlen];exact hR) ?_)|((first |go_at_call 95|go_at_call 97|go_at_call 93);refine(HP.out _ HB.out).mono ?_;rintro e w2 ⟨rfl,b2⟩))
  go_ret
  exact⟨rfl,HB.out.trans (b2.mono HB.out.size)⟩)
theorem YH {I C L P K:Nat}{T TF:TypeId}{sz:Nat}{cap:List Value}(hd:V3 I C L P K T TF sz cap){w:World}{A:Option Addr}{c:Nat}{α:Type}{xs:List α}{f:α->List Value}{t:α->Bool}(hr:dR w A sz (xs.map f))(hn:xs.length<=1000)(hl:∀x∈xs,(f x).length=sz)
  (hP:∀x∈xs,∀W,Below w.heap.size w W->Calls Tryz.prog K (.agg (f x).toArray::cap).toArray W (bld.Ans W (.bool (t x)))):
  Calls Tryz.prog L #[.slice A xs.length c,.func (.func K) #[] cap.toArray] w (bld.Ans w (.bool (xs.all t))):=by
 obtain⟨w1,hw1⟩:∃w1,w1=w.alloc (.cells #[.func (.func K) #[] cap.toArray] TF):=⟨_,rfl⟩
 have b1:Below w.heap.size w w1:=by rw[hw1];exact(ahE _ _).alloc (aeM _) _
 have c1:w1.cell? ⟨w.heap.size,0,none⟩=some (.func (.func K) #[] cap.toArray):=by rw[hw1,ahF _ w.heap.size 0 _ _ (0,0) (ay rfl)];rfl
 have l1:w.heap.size<w1.heap.size:=by rw[hw1];simp
 have H:=Lib.hid (aeb hd (c:=c) (X:=w.heap.size) (t:=λx=>!t x) (hr.below b1) hn hl (λel he W hW=>adV hd (hl el he) ((hW.cell (p:=⟨w.heap.size,0,none⟩) l1).trans c1) (afe l1 hW.size) (λW2 hW2=>hP el he W2 ((b1.trans (hW.mono b1.size)).trans (hW2.mono ((b1.trans (hW.mono b1.size)).size))))))
 have HB:=Lib.hid b1
 have he:(!xs.any λx=>!t x)=xs.all t:=by rw[List.not_any_eq_all_not];simp
 have HE:=Lib.hid he
 clear hr hP hl b1 c1 l1 he
 rcases hd with⟨rfl,rfl,rfl,rfl,rfl,rfl,rfl,rfl,rfl⟩|⟨rfl,rfl,rfl,rfl,rfl,rfl,rfl,rfl,Y,rfl⟩|⟨rfl,rfl,rfl,rfl,rfl,rfl,rfl,rfl,Y,rfl⟩
 case' inl=>have hR:=tyR;have hu:=Tryz.underlying88;go_enter Tryz.func94,Tryz.ntmps94
 case' inr.inl=>have hR:=fnR;have hu:=Tryz.underlying40;go_enter Tryz.func96,Tryz.ntmps96
 case' inr.inr=>have hR:=bkR;have hu:=Tryz.underlying99;go_enter Tryz.func98,Tryz.ntmps98
 all_goals(
  go_upto_region 1 with fail
  rw[<-hw1]
  clear hw1
  go_wp2_with ((first |go_at_call 150|go_at_call 152|go_at_call 154);refine H.out.mono ?_;rintro e w2 ⟨rfl,b2⟩)
  go_ret
  exact⟨by rw[<-HE.out];rfl,HB.out.trans (b2.mono HB.out.size)⟩)
abbrev tJm:TypeId:=81
theorem jmR:(Tryz.prog.info? 81).map (·.size)=some 13:=by kernel_rfl
def noF:FnD:=⟨0,false,.bool false,.bool false,[],[],⟨.slice none 0 0,[]⟩⟩
def jP (Ds:List FnD)(b:bU):Bool:=!decide (ah b.pre 0=4)||(decide (ah b.pre 6<Ds.length)&&decide ((b.ops.length:Int)=(Ds.getD (ah b.pre 6).toNat noF).p))
theorem QA {w:World}{b:bU}(h:jV w b):∃(A:Option Addr) (c:Nat) (x0 x1:Int) (x2 x3:Int) (b4:Bool) (x5 x6 x7 x8:Int) (B:Option Addr) (d:Nat) (y0:Int) (y1:Bool) (y2:Int),b.s=.slice A b.st.length c/\b.pre=[.int .u8 x0,.int .u8 x1,.int .i64 x2,.int .i64 x3,.bool b4,.int .u8 x5,.int .i64 x6,.int .i64 x7,.int .i64 x8]/\b.a=.slice B b.ops.length d/\b.post=[.int .i64 y0,.bool y1,.int .u8 y2]:=by
 obtain⟨A,c,e,_⟩:=jV.KD h
 obtain⟨B,d,e2,_⟩:=bT.rows h.opl (by decide)
 obtain⟨v0,l0,q0,⟨x0,rfl,_⟩,k0⟩:=aN h.rJ
 obtain⟨v1,l1,rfl,⟨x1,rfl,_⟩,k1⟩:=aN k0
 obtain⟨v2,l2,rfl,⟨x2,rfl,_⟩,k2⟩:=aN k1
 obtain⟨v3,l3,rfl,⟨x3,rfl,_⟩,k3⟩:=aN k2
 obtain⟨v4,l4,rfl,⟨x4,rfl⟩,k4⟩:=aN k3
 obtain⟨v5,l5,rfl,⟨x5,rfl,_⟩,k5⟩:=aN k4
 obtain⟨v6,l6,rfl,⟨x6,rfl,_⟩,k6⟩:=aN k5
 obtain⟨v7,l7,rfl,⟨x7,rfl,_⟩,k7⟩:=aN k6
 obtain⟨v8,l8,rfl,⟨x8,rfl,_⟩,k8⟩:=aN k7
 obtain rfl:=jY k8
 obtain⟨u0,m0,p0,⟨y0,rfl,_⟩,j0⟩:=aN h.mZ
 obtain⟨u1,m1,rfl,⟨y1,rfl⟩,j1⟩:=aN j0
 obtain⟨u2,m2,rfl,⟨y2,rfl,_⟩,j2⟩:=aN j1
 obtain rfl:=jY j2
 exact⟨A,c,x0,x1,x2,x3,x4,x5,x6,x7,x8,B,d,y0,y1,y2,e,q0,e2,p0⟩
theorem aae {w:World}{A:Option Addr}{c Y:Nat}{Ds:List FnD}{b:bU}(hb:jV w b)(hr:dR w A 4 (Ds.map FnD.cells))(hn:Ds.length<=8)(hY:w.cell? ⟨Y,0,none⟩=some (.slice A Ds.length c))(hlt:Y<w.heap.size)(h0:ah b.pre 0=4->0<=ah b.pre 6):
  Calls Tryz.prog 93 #[.agg b.cells.toArray,.pointer (some ⟨Y,0,none⟩)] w (bld.Ans w (.bool (jP Ds b))):=by
 obtain⟨As,cs,x0,x1,x2,x3,b4,x5,x6,x7,x8,B,d,y0,y1,y2,e1,e2,e3,e4⟩:=QA hb
 have hcb:jP Ds b=(!decide (x0=4)||(decide (x6<Ds.length)&&decide ((b.ops.length:Int)=(Ds.getD x6.toNat noF).p))):=by unfold jP;rw[e2];rfl
 have h06:x0=4->0<=x6:=by rw[e2]at h0;exact h0
 have ec:b.cells=[.slice As b.st.length cs,.int .u8 x0,.int .u8 x1,.int .i64 x2,.int .i64 x3,.bool b4,.int .u8 x5,.int .i64 x6,.int .i64 x7,.int .i64 x8,.slice B b.ops.length d,.int .i64 y0,.bool y1,.int .u8 y2]:=by unfold bU.cells;rw[e1,e2,e3,e4];rfl
 rw[ec,hcb]
 have b0:Below w.heap.size w (w.alloc (.cells #[.slice As b.st.length cs,.int .u8 x0,.int .u8 x1,.int .i64 x2,.int .i64 x3,.bool b4,.int .u8 x5,.int .i64 x6,.int .i64 x7,.int .i64 x8,.slice B b.ops.length d,.int .i64 y0,.bool y1,.int .u8 y2] tBk)):=(ahE _ _).alloc (aeM _) _
 have hr1:(w.alloc (.cells #[.slice As b.st.length cs,.int .u8 x0,.int .u8 x1,.int .i64 x2,.int .i64 x3,.bool b4,.int .u8 x5,.int .i64 x6,.int .i64 x7,.int .i64 x8,.slice B b.ops.length d,.int .i64 y0,.bool y1,.int .u8 y2] tBk)).rangeAt w.heap.size 1 [.int .u8 x0,.int .u8 x1,.int .i64 x2,.int .i64 x3,.bool b4,.int .u8 x5,.int .i64 x6,.int .i64 x7,.int .i64 x8,.slice B b.ops.length d,.int .i64 y0,.bool y1,.int .u8 y2]:=λj u hj=>by
  rw[ahF _ w.heap.size (1+j) _ tBk (0,0) (ay rfl),ags 1 j]
  simpa using hj
 have HR1:=Lib.hid hr1
 have HR:=Lib.hid hr
 have HY:=Lib.hid hY
 clear hb hr hr1 e1 e2 e3 e4 ec hcb h0
 go_enter Tryz.func93,Tryz.ntmps93
 go_upto_region 2 with(refine wpList_load_mid rfl tJm _ rfl w.heap.size 1 rfl [.int .u8 x0,.int .u8 x1,.int .i64 x2,.int .i64 x3,.bool b4,.int .u8 x5,.int .i64 x6,.int .i64 x7,.int .i64 x8,.slice B b.ops.length d,.int .i64 y0,.bool y1,.int .u8 y2] _ HR1.out Tryz.underlying81 rfl jmR ?_)
 obtain⟨w2,hw2⟩:∃w2,w2=(w.alloc (.cells #[.slice As b.st.length cs,.int .u8 x0,.int .u8 x1,.int .i64 x2,.int .i64 x3,.bool b4,.int .u8 x5,.int .i64 x6,.int .i64 x7,.int .i64 x8,.slice B b.ops.length d,.int .i64 y0,.bool y1,.int .u8 y2] tBk)).alloc (.cells #[.int .u8 x0,.int .u8 x1,.int .i64 x2,.int .i64 x3,.bool b4,.int .u8 x5,.int .i64 x6,.int .i64 x7,.int .i64 x8,.slice B b.ops.length d,.int .i64 y0,.bool y1,.int .u8 y2] tJm):=⟨_,rfl⟩
 have b2:Below w.heap.size w w2:=by rw[hw2];exact b0.alloc b0.size _
 have hj:w2.heap[w.heap.size+1]? =some (.cells #[.int .u8 x0,.int .u8 x1,.int .i64 x2,.int .i64 x3,.bool b4,.int .u8 x5,.int .i64 x6,.int .i64 x7,.int .i64 x8,.slice B b.ops.length d,.int .i64 y0,.bool y1,.int .u8 y2] tJm (0,0)):=by rw[hw2];exact ay (by simp)
 rw[<-hw2]
 have k0:w2.cell? ⟨w.heap.size+1,0,none⟩=some (.int .u8 x0):=by rw[ahF w2 _ 0 _ tJm (0,0) hj];rfl
 have k6:w2.cell? ⟨w.heap.size+1,6,none⟩=some (.int .i64 x6):=by rw[ahF w2 _ 6 _ tJm (0,0) hj];rfl
 have k9:w2.cell? ⟨w.heap.size+1,9,none⟩=some (.slice B b.ops.length d):=by rw[ahF w2 _ 9 _ tJm (0,0) hj];rfl
 have kY:w2.cell? ⟨Y,0,none⟩=some (.slice A Ds.length c):=(b2.cell (p:=⟨Y,0,none⟩) hlt).trans HY.out
 have HB:=Lib.hid b2
 have HR2:=Lib.hid (HR.out.below b2)
 clear b0 HR1 hw2 b2 hj HY HR
 by_cases hx:x0=4
 ·subst hx
  have h06:=h06 rfl
  by_cases hm:x6<(Ds.length:Int)
  ·obtain⟨m,rfl⟩:∃m:Nat,x6=(m:Int):=⟨x6.toNat,by omega⟩
   obtain⟨D,hD⟩:∃D,Ds[m]? =some D:=⟨_,aeK (by omega)⟩
   have hgd:Ds.getD (m:Int).toNat noF=D:=by rw[af8,afO,hD];rfl
   rw[hgd]
   obtain⟨g,o,eA,hg,hcd⟩:=HR2.out m D.cells (by rw[aeT,hD];rfl)
   subst eA
   have kP:=hcd 0 _ rfl
   simp only[afS]at kP
   have hne:((4:Int) != 4)=false:=rfl
   have HQ:=Lib.hid hD
   clear hcd hgd hD HR2
   refine bH [⟨w.heap.size+1,0,none⟩,⟨w.heap.size+1,6,none⟩,⟨w.heap.size+1,9,none⟩,⟨Y,0,none⟩,⟨g,o+m*4,none⟩] [(0,true),(1,true),(2,true),(3,true),(4,true),(5,true),(6,true),(7,true),(8,true),(9,true),(10,true),(11,true),(12,true),(13,true),(14,true),(15,true),(16,true),(17,true),(18,true),(19,true),(20,true),(21,true),(22,true),(23,true),(24,true)] (by kernel_rfl) (by kernel_rfl) (by decide) (by kernel_rfl) (λ_ _ _ _ _ h=>h) ?_
   have k0:w2.drew.cell? ⟨w.heap.size+1,0,none⟩=_:=k0
   have k6:w2.drew.cell? ⟨w.heap.size+1,6,none⟩=_:=k6
   have k9:w2.drew.cell? ⟨w.heap.size+1,9,none⟩=_:=k9
   have kY:w2.drew.cell? ⟨Y,0,none⟩=_:=kY
   have kP:w2.drew.cell? ⟨g,o+m*4,none⟩=_:=kP
   repeat(first |(refine SeqC.take (v:=?_) rfl (by rfl) (λW hW=>?_) ?_;rotate_left;(focus(have zk0:=hW.get (by simp) k0;have zk6:=hW.get (by simp) k6;have zk9:=hW.get (by simp) k9;have zkY:=hW.get (by simp) kY;have zkP:=hW.get (by simp) kP;go_simp;with_reducible rfl));simp only[Act.put,aeJ,aeP,aeO])|(refine SeqC.skip rfl (by rfl) ?_;simp only[Act.put,aeJ,aeP,aeO]))
   refine SeqC.done ?_
   clear k0 k6 k9 kY kP
   go_wp2_with fail
   go_ret
   exact⟨by simp[HQ.out];rfl,HB.out.drew⟩
  ·have hne:((4:Int) != 4)=false:=rfl
   have hd2:decide (x6<(Ds.length:Int))=false:=af2 hm
   clear HR2
   refine bH [⟨w.heap.size+1,0,none⟩,⟨w.heap.size+1,6,none⟩,⟨w.heap.size+1,9,none⟩,⟨Y,0,none⟩] [(0,true),(1,true),(2,true),(3,true),(4,true),(5,true),(6,true),(7,true),(8,true),(9,true),(10,true),(11,true),(12,true),(13,true),(14,true),(15,true),(16,true),(17,true),(18,true),(19,true),(20,true),(21,true),(22,true),(23,true),(24,true)] (by kernel_rfl) (by kernel_rfl) (by decide) (by kernel_rfl) (λ_ _ _ _ _ h=>h) ?_
   have k0:w2.drew.cell? ⟨w.heap.size+1,0,none⟩=_:=k0
   have k6:w2.drew.cell? ⟨w.heap.size+1,6,none⟩=_:=k6
   have k9:w2.drew.cell? ⟨w.heap.size+1,9,none⟩=_:=k9
   have kY:w2.drew.cell? ⟨Y,0,none⟩=_:=kY
   repeat(first |(refine SeqC.take (v:=?_) rfl (by rfl) (λW hW=>?_) ?_;rotate_left;(focus(have zk0:=hW.get (by simp) k0;have zk6:=hW.get (by simp) k6;have zk9:=hW.get (by simp) k9;have zkY:=hW.get (by simp) kY;go_simp;with_reducible rfl));simp only[Act.put,aeJ,aeP,aeO])|(refine SeqC.skip rfl (by rfl) ?_;simp only[Act.put,aeJ,aeP,aeO]))
   refine SeqC.done ?_
   clear k0 k6 k9 kY
   go_wp2_with fail
   go_ret
   exact⟨by simp,HB.out.drew⟩
 ·have hne:(x0 != 4)=true:=by simpa using hx
  have hx2:decide (x0=4)=false:=af2 hx
  clear HR2
  refine bH [⟨w.heap.size+1,0,none⟩,⟨w.heap.size+1,6,none⟩,⟨w.heap.size+1,9,none⟩,⟨Y,0,none⟩] [(0,true),(1,true),(2,true),(3,true),(4,true),(5,true),(6,true),(7,true),(8,true),(9,true),(10,true),(11,true),(12,true),(13,true),(14,true),(15,true),(16,true),(17,true),(18,true),(19,true),(20,true),(21,true),(22,true),(23,true),(24,true)] (by kernel_rfl) (by kernel_rfl) (by decide) (by kernel_rfl) (λ_ _ _ _ _ h=>h) ?_
  have k0:w2.drew.cell? ⟨w.heap.size+1,0,none⟩=_:=k0
  have k6:w2.drew.cell? ⟨w.heap.size+1,6,none⟩=_:=k6
  have k9:w2.drew.cell? ⟨w.heap.size+1,9,none⟩=_:=k9
  have kY:w2.drew.cell? ⟨Y,0,none⟩=_:=kY
  repeat(first |(refine SeqC.take (v:=?_) rfl (by rfl) (λW hW=>?_) ?_;rotate_left;(focus(have zk0:=hW.get (by simp) k0;have zk6:=hW.get (by simp) k6;have zk9:=hW.get (by simp) k9;have zkY:=hW.get (by simp) kY;go_simp;with_reducible rfl));simp only[Act.put,aeJ,aeP,aeO])|(refine SeqC.skip rfl (by rfl) ?_;simp only[Act.put,aeJ,aeP,aeO]))
  refine SeqC.done ?_
  clear k0 k6 k9 kY
  go_wp2_with fail
  go_ret
  exact⟨by simp[hx],HB.out.drew⟩
abbrev tPr:TypeId:=24
theorem take_one {α:Type}{l:List α}{p:α->Prop}{i:Nat}{x:α}(h:l[i]? =some x)(h0:∀y∈l.take i,p y)(hx:p x):∀y∈l.take (i+1),p y:=λy hy=>by
 rw[ag6,h]at hy
 rcases afl.1 hy with hy|hy
 ·exact h0 y hy
 ·rw[aeR.1 hy];exact hx
theorem iZ {w:World}{A:Option Addr}{Ds:List FnD}{i:Nat}{D:FnD}(hr:dR w A 4 (Ds.map FnD.cells))(h:Ds[i]? =some D):∃g o,A=some ⟨g,o,none⟩/\g<w.heap.size/\w.rangeAt g (o+i*4) [.int .i64 D.p,.bool D.u,D.lv,D.bv]:=
 hr i D.cells (by rw[aeT,h];rfl)
theorem lK {w:World}{v:Value}{D:FnD}(h:aZ w v D):∃A1 c1,D.lv=.slice A1 D.ls.length c1/\∃A2 c2,D.bv=.slice A2 D.bs.length c2:=by
 obtain⟨A1,c1,q1⟩:=h.locals.sl
 obtain⟨A2,c2,q2⟩:=h.blocks.sl
 rw[af4]at q2
 exact⟨A1,c1,q1,A2,c2,q2⟩
open txt
theorem adF:(BU ((Lf.of (ivU 16)).lo 6 8)&&BU ((Lf.of (ivU 16)).hi 6 (-1)))=true:=by kernel_rfl
theorem a2W {w:World}{v:Value}{pre:List Value}{sv:Value}{post:List Value}{els:List (List Value)}(hj:jd w v pre sv post els)(h:okJ pre els post=true):0<=ah pre 6/\ah pre 6<=7:=by
 have hl:=jS hj
 have lp:=ji hj
 let us:List Value:=aW pre els post++(kV pre els post).map (Value.int .i64)
 have hk:au Kd.ok (kJ++[.i .i64,.i .i64,.i .i64]) us:=(sW hj).app ⟨⟨_,rfl,by have:=eU (els.all λel=>(aY 0).val el);show(-9223372036854775808:Int)<=_;omega,by have:=eU (els.all λel=>(aY 0).val el);show _<=(9223372036854775807:Int);omega⟩,⟨_,rfl,by have:=eU ((aY 1).val (aW pre els post));show(-9223372036854775808:Int)<=_;omega,by have:=eU ((aY 1).val (aW pre els post));show _<=(9223372036854775807:Int);omega⟩,⟨_,rfl,by have:=eU ((dX 10).val (aW pre els post));show(-9223372036854775808:Int)<=_;omega,by have:=eU ((dX 10).val (aW pre els post));show _<=(9223372036854775807:Int);omega⟩,trivial⟩
 have h0:(Lf.of (ivU 16)).Holds (ah us) (λ_=>[]):=zN hk rfl
 have ea:∀i,i<13->ah us i=ah (aW pre els post) i:=λi hi=>jy (by omega)
 have ep:∀i,i<9->ah us i=ah pre i:=λi hi=>(ea i (by omega)).trans (by unfold aW;exact jy (by omega))
 have eb:∀j m,(kV pre els post)[j]? =some m->ah us (13+j)=m:=λj m hm=>by
  show ah (aW pre els post++_) _=_
  rw[lg hl]
  unfold ah
  rw[aeT,hm]
  rfl
 have e14:ah us 14=b2i ((aY 1).val (aW pre els post)):=eb 1 _ rfl
 have e15:ah us 15=b2i ((dX 10).val (aW pre els post)):=eb 2 _ rfl
 have idr:∀e:E,e.ren (λi=>i)=e:=λe=>by
  induction e with
  |lt i c=>rfl
  |zero l=>simp[E.ren]
  |and a b ha hb=>rw[E.ren,ha,hb]
  |or a b ha hb=>rw[E.ren,ha,hb]
  |not a ha=>rw[E.ren,ha]
 have sm:∀e:E,e.bd 13=true->e.num (ah us)=e.val (aW pre els post):=λe he=>by
  rw[E.iD]
  have:=E.jD (f:=λi=>i) he ea
  rwa[idr]at this
 have sp:∀e:E,e.bd 9=true->e.num (ah us)=e.num (ah pre):=λe he=>by
  have:=E.jD (f:=λi=>i) he ep
  rwa[idr]at this
 have one:∀i c,(isE i c).num (ah us)=decide (ah us i=c):=λi c=>by show(decide _&&true)=_;rw[afg]
 have hg:∀p∈jmG,p.1.num (ah us)=p.2:=λp hp=>by
  simp only[jmG,aeQ,aeZ,afj]at hp
  rcases hp with rfl|rfl|rfl
  ·unfold okJ at h
   rw[E.iD]at h
   exact h
  ·refine pG ?_
   rw[one,e14,made.eG,sm _ rfl]
  ·refine pG ?_
   rw[one,e15,made.eG,sm _ rfl]
 have c6:=ep 6 (by decide)
 have r:=adF
 rw[aeI]at r
 constructor
 ·apply afy;intro hc;exact cannot r.2 (h0.hi (i:=6) (c:=-1) (by omega)) hg
 ·apply afy;intro hc;exact cannot r.1 (h0.lo (i:=6) (c:=8) (by omega)) hg
def JY (t:List Value):Bool:=decide (ah t 0=1)
theorem Eo:jE.all (λp=>wZ (.a (.s (.bool (decide (p.1=1))))) (QH 95 p))=true:=by kernel_rfl
theorem UN {t:List Value}(h:au Kd.ok [.i .u8,.i .u8] t)(hk:qm t=true)(W:World):Calls Tryz.prog 95 #[.agg t.toArray] W (bld.Ans W (.bool (JY t))):=by
 obtain⟨p,hp,rfl⟩:=qN h hk
 refine(yX W (aeV.1 Eo p hp)).mono ?_
 rintro e w' ⟨u,rfl,⟨r,hu⟩,hb⟩
 refine⟨?_,hb⟩
 rw[show u=.bool (decide (p.1=1))from hu]
 unfold JY oU ah bD
 simp
 omega
theorem Fg {w:World}{v:Value}{D:FnD}(h:aZ w v D)(hc:check.iY D=0):∀b∈D.bs,ah b.pre 0=4->0<=ah b.pre 6:=λb hb _=>(a2W (txt.uK (h.blk b hb)) ((txt.kX hc).jm b hb)).1
def sF:List FnD->Int
 |[]=>0
 |D::Ds=>if check.iY D=0 then sF Ds else check.iY D
theorem Ir:∀{Ds:List FnD},(∀D∈Ds,check.iY D=0)->sF Ds=0
 |[],_=>rfl
 |D::Ds,h=>by
  unfold sF
  rw[afm (h D afh)]
  exact Ir λx hx=>h x (afd _ hx)
theorem Ov:∀{Ds:List FnD} {i:Nat} {D:FnD},Ds[i]? =some D->(∀x∈Ds.take i,check.iY x=0)->check.iY D≠0->sF Ds=check.iY D
 |[],_,_,h,_,_=>by simp at h
 |D::Ds,0,E,h,_,hn=>by
  have h:D=E:=by simpa using h
  subst h
  unfold sF
  rw[afc hn]
 |D::Ds,i+1,E,h,h0,hn=>by
  unfold sF
  rw[afm (h0 D (by simp))]
  exact Ov (by simpa using h) (λx hx=>h0 x (by rw[ahh];exact afd _ hx)) hn
def lY (Ds:List FnD):Bool:=(((Ds.getD 0 noF).ls.drop 1).take (Ds.getD 0 noF).p.toNat).all JY
def ou (Ds:List FnD):Bool:=Ds.all λD=>D.bs.all (jP Ds)
def jX (Ds:List FnD):Int:=if 8<Ds.length then 4 else if Ds.length=0 then 8 else if sF Ds=0 then(if lY Ds&&ou Ds then 0 else 8)else sF Ds
def yg (Ds:List FnD):Bool:=decide (12<Ds.length)||Ds.any great.Ag
theorem U2 {w:World}{v fv:Value}{Ds:List FnD}(h:dS w v fv Ds)(hn:12<Ds.length):Calls Tryz.prog 6 #[v] w (bld.Ans w (.bool true)):=by
 obtain⟨A,c,e,_,hm,hr⟩:=h.rows
 rw[e]
 have hd:decide ((Ds.length:Int)>12)=true:=afn (by omega)
 have b0:Below w.heap.size w (w.alloc (.cells #[.slice A Ds.length c] tPr)):=(ahE _ _).alloc (aeM _) _
 have HB:=Lib.hid b0
 clear h hr e b0
 go_enter Tryz.func6,Tryz.ntmps6
 go_wp2_with fail
 go_ret
 exact⟨rfl,HB.out⟩
theorem a7A {w:World}{v fv:Value}{Ds:List FnD}(h:dS w v fv Ds)(hn:Ds.length<=12):Calls Tryz.prog 6 #[v] w (bld.Ans w (.bool (Ds.any great.Ag))):=by
 obtain⟨A,c,e,_,hm,hr⟩:=h.rows
 have hnI:¬(12:Int)<(Ds.length:Int):=by omega
 have hd:decide ((Ds.length:Int)>12)=false:=af2 hnI
 have HG:=Lib.hid (λ(D:FnD) (hD:D∈Ds) (W:World) (hW:Below w.heap.size w W)=>great.Yp ((h.fn D hD).frz hW.block))
 rw[e]
 obtain⟨w1,hw1⟩:∃w1,w1=w.alloc (.cells #[.slice A Ds.length c] tPr):=⟨_,rfl⟩
 have b0:Below w.heap.size w w1:=by rw[hw1];exact(ahE _ _).alloc (aeM _) _
 have p0:w1.cell? ⟨w.heap.size,0,none⟩=some (.slice A Ds.length c):=by rw[hw1,ahF _ w.heap.size 0 _ _ (0,0) (ay rfl)];rfl
 have l1:w.heap.size<w1.heap.size:=by rw[hw1];simp
 have HB:=Lib.hid b0
 have HR:=Lib.hid hr
 have HP0:=Lib.hid p0
 clear h hr e b0
 go_enter Tryz.func6,Tryz.ntmps6
 go_upto_region 1 with fail
 rw[<-hw1]
 clear hw1
 go_wp2_with fail
 clear p0
 go_loopg [3] Ds.length (λg s3 w8=>∃i:Nat,s3=.int .i64 i/\i<=Ds.length/\g=Ds.length-i/\(Ds.take i).any great.Ag=false/\Below w1.heap.size w1 w8)
 case atStart=>exact⟨0,rfl,afb _,rfl,rfl,ahE _ _⟩
 case round=>
  obtain⟨i,rfl,hi,rfl,hno,hbel⟩:=hrel
  have h0I:(0:Int)<=(i:Int):=afa _
  have p0:=(hbel.cell (p:=⟨w.heap.size,0,none⟩) l1).trans HP0.out
  have HBL:=Lib.hid hbel
  have HO:=Lib.hid (HB.out.trans (hbel.mono HB.out.size))
  have HNO:=Lib.hid hno
  clear hbel hno
  rcases afp i Ds.length with hlt|hge
  ·have hltI:(i:Int)<(Ds.length:Int):=by omega
   obtain⟨D,hD⟩:∃D,Ds[i]? =some D:=⟨_,aeK hlt⟩
   obtain⟨g,o,eA,hg,hc⟩:=iZ (HR.out.below HO.out) hD
   subst eA
   have HC:=Lib.hid hc
   have HD:=Lib.hid hD
   have HGD:=Lib.hid (HG.out D (aeY hD) _ HO.out)
   clear hc hD
   cases ht:great.Ag D with
   |true=>
    have HT:=Lib.hid ht
    rw[ht]at HGD
    clear ht
    go_wp2_with (first |(refine wpList_load_mid rfl tFn _ rfl g (o+i*4) rfl [.int .i64 D.p,.bool D.u,D.lv,D.bv] _ HC.out Tryz.underlying40 rfl fnR ?_)|(go_at_call 40;refine HGD.out.mono ?_;rintro e w2 ⟨rfl,b2⟩))
    go_ret
    exact⟨by rw[a0u HD.out HT.out];rfl,HO.out.trans (b2.mono HO.out.size)⟩
   |false=>
    have HT:=Lib.hid ht
    rw[ht]at HGD
    clear ht
    go_wp2_with (first |(refine wpList_load_mid rfl tFn _ rfl g (o+i*4) rfl [.int .i64 D.p,.bool D.u,D.lv,D.bv] _ HC.out Tryz.underlying40 rfl fnR ?_)|(go_at_call 40;refine HGD.out.mono ?_;rintro e w2 ⟨rfl,b2⟩))
    go_roundg (Ds.length-(i+1))
    case measure=>omega
    case rel=>exact⟨i+1,by simp,by omega,rfl,(xR HD.out HNO.out).trans HT.out,HBL.out.trans (b2.mono HBL.out.size)⟩
  ·obtain rfl:i=Ds.length:=by omega
   rw[afq]at HNO
   go_wp2_with fail
   go_ret
   exact⟨by rw[HNO.out];rfl,HO.out⟩
theorem Hq {w:World}{v fv:Value}{Ds:List FnD}(h:dS w v fv Ds):Calls Tryz.prog 6 #[v] w (bld.Ans w (.bool (yg Ds))):=by
 unfold yg
 by_cases hn:12<Ds.length
 ·rw[afn hn];exact U2 h hn
 ·rw[af2 hn];exact a7A h (by omega)
