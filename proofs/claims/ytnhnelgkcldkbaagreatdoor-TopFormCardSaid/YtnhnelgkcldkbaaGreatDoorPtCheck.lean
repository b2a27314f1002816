/- text.Program. -/
import Derived.Test.YtnhnelgkcldkbaaGreatDoorPgQ
set_option linter.all false
set_option maxHeartbeats 8000000
set_option maxRecDepth 100000
namespace Go.Proofs.YtnhnelgkcldkbaaGreatDoor
namespace prg
open Go.RowKit Am loan bld
open txt (textF a6p Lim Cons Wr Hz MR WR)
def jZ:Nat->List FnD->List UInt8
 |_,[]=>[]
 |i,D::Ds=>textF D (i:Nat)++jZ (i+1) Ds
theorem Lu:∀(j:Nat) (a b:List FnD),jZ j (a++b)=jZ j a++jZ (j+a.length) b
 |j,[],b=>by simp[jZ]
 |j,D::a,b=>by rw[ag9,jZ,jZ,Lu (j+1) a b,af9,afi,show j+1+a.length=j+(a.length+1)by omega]
theorem Td {Ds:List FnD}{i:Nat}{D:FnD}(h:Ds[i]? =some D):jZ 0 (Ds.take (i+1))=jZ 0 (Ds.take i)++textF D (i:Nat):=by
 have hl:(Ds.take i).length=i:=by have:=(aeU.1 h).1;rw[afu];omega
 rw[ag6,h,Lu,hl,afK]
 simp[jZ]
theorem KP:∀{Ds:List FnD} {j:Nat},(∀D∈Ds,Lim D)->(jZ j Ds).length<=1000000*Ds.length
 |[],_,_=>by simp[jZ]
 |D::Ds,j,h=>by
  have h1:=MR (h D afh) (j:Nat)
  have h2:=KP (j:=j+1) λx hx=>h x (afd _ hx)
  rw[jZ,aeL,afi]
  omega
theorem a0R {Ds:List FnD}{i:Nat}(h:∀D∈Ds,Lim D):(jZ 0 (Ds.take i)).length<=1000000*Ds.length:=by
 have h1:=KP (Ds:=Ds.take i) (j:=0) λD hD=>h D (afW hD)
 have h2:(Ds.take i).length<=Ds.length:=by rw[afu];omega
 have:=Nat.mul_le_mul_left 1000000 h2
 omega
def Fz (f:FuncId)(w:World)(v:Value)(x:Int):Prop:=∀w1,Below w.heap.size w w1->Calls Tryz.prog f #[v] w1 (bld.Ans w1 (.int .i64 x))
theorem ada {w:World}{v fv:Value}{Ds:List FnD}(h:dS w v fv Ds)(h8:Ds.length<=8)(hL:∀D∈Ds,Lim D)(hK:∀D∈Ds,Cons w D)(hC:Fz 43 w v 0):Calls Tryz.prog 10 #[v] w (a6p (jZ 0 Ds) 0 w):=by
 obtain⟨A,c,e,_,hm,hr⟩:=h.rows
 unfold Fz at hC
 have HF:=Lib.hid (λ(D:FnD) (hD:D∈Ds) (w1:World) (b:Nat) (acc:List UInt8) (n:Nat) (hn:n<100) (hb:w.heap.size<=b) (hb1:Below w.heap.size w w1) (hB:Bld tB tU b acc w1) (ha:acc.length<=100000000)=>Hz (h.fn D hD) (hL D hD) (hK D hD) hb hb1 hB ha (n:=(n:Int)) (by omega))
 have HSL:=Lib.hid (λ(D:FnD) (hD:D∈Ds)=>lK (h.fn D hD))
 have HLIM:=Lib.hid (λi=>a0R (i:=i) hL)
 rw[e]at hC |-
 have b0:Below w.heap.size w (w.alloc (.cells #[.slice A Ds.length c] tPr)):=(ahE _ _).alloc (aeM _) _
 have P0:(w.alloc (.cells #[.slice A Ds.length c] tPr)).heap[w.heap.size]? =some (.cells #[.slice A Ds.length c] tPr (0,0)):=ay rfl
 have HC:=Lib.hid hC
 have HR:=Lib.hid hr
 clear hC h hr e hL hK
 go_enter Tryz.func10,Tryz.ntmps10
 go_upto_region 4 with(go_at_call 43;refine(HC.out _ b0).mono ?_;rintro e w1 ⟨rfl,b1⟩)
 have b01:=b0.trans (b1.mono b0.size)
 have P1:=(b1.block _ (aeN.1 P0).1).trans P0
 have p1:w1.cell? ⟨w.heap.size,0,none⟩=some (.slice A Ds.length c):=by rw[ahF w1 _ 0 _ tPr (0,0) P1];rfl
 have HB:=Lib.hid (WR w1)
 have HB01:=Lib.hid b01
 have hlt1:w.heap.size<w1.heap.size:=(aeN.1 P1).1
 have hbb:w.heap.size<=w1.heap.size:=afk hlt1
 have HB2:=Lib.hid (b01.alloc hbb (.cells #[.pointer none,.slice none 0 0] tB))
 clear P0 P1 b0 b1 b01 HC
 go_wp2_with fail
 clear p1
 generalize w1.heap.size=b at *
 generalize w1.alloc (.cells #[.pointer none,.slice none 0 0] tB)=w2 at *
 go_loopg [16] Ds.length (λg s16 w8=>∃i:Nat,s16=.int .i64 i/\i<=Ds.length/\g=Ds.length-i/\Bld tB tU b (jZ 0 (Ds.take i)) w8/\Wrote tU b w2 w8)
 case atStart=>exact⟨0,rfl,afb _,rfl,by simpa[jZ]using HB.out,Wrote.refl _ _ _⟩
 case round=>
  obtain⟨i,rfl,hi,rfl,hbl,hwr⟩:=hrel
  have h0I:(0:Int)<=(i:Int):=afa _
  have HBL:=Lib.hid hbl
  have HWR:=Lib.hid hwr
  have HO:=Lib.hid (HB2.out.trans (hwr.bel.mono hbb))
  have hblt:=hbl.lt
  clear hbl hwr
  rcases afp i Ds.length with hlt|hge
  ·have hltI:(i:Int)<(Ds.length:Int):=by omega
   obtain⟨D,hD⟩:∃D,Ds[i]? =some D:=⟨_,aeK hlt⟩
   obtain⟨g,o,eA,hg,hc⟩:=iZ (HR.out.below HO.out) hD
   subst eA
   obtain⟨A1,c1,q1,A2,c2,q2⟩:=HSL.out D (aeY hD)
   have HNX:=Lib.hid (Td hD)
   have hbx:Below wr.heap.size wr (wr.alloc (.cells #[.int .i64 D.p,.bool D.u,D.lv,D.bv] tFn)):=(ahE _ _).alloc (aeM _) _
   have hX:=HO.out.trans (hbx.mono HO.out.size)
   have hW2:=HWR.out.trans (Wrote.of_below hbx (afk hblt))
   have hFD:=HF.out D (aeY hD) _ b _ i (by omega) hbb hX (HBL.out.below hbx) (by have:=HLIM.out i;omega)
   rw[q1,q2]at hc hX hW2 hFD
   have HCC:=Lib.hid hc
   have HX:=Lib.hid hX
   have HW2:=Lib.hid hW2
   have HFD:=Lib.hid hFD
   clear hc hD hbx q1 q2 hX hW2 hFD
   go_wp2_with (first |(refine wpList_load_mid rfl tFn _ rfl g (o+i*4) rfl [.int .i64 D.p,.bool D.u,.slice A1 D.ls.length c1,.slice A2 D.bs.length c2] _ HCC.out Tryz.underlying40 rfl fnR ?_)|(go_at_call 45;refine HFD.out.mono ?_;rintro e w3 ⟨rfl,hb3,wr3⟩))
   go_roundg (Ds.length-(i+1))
   case measure=>omega
   case rel=>exact⟨i+1,by simp,by omega,rfl,by rw[HNX.out];exact hb3,HW2.out.trans wr3⟩
  ·obtain rfl:i=Ds.length:=by omega
   rw[afq]at HBL
   go_wp2_with (go_at_call 46;refine(Tryz.Builder_String_any_k b b _ wr HBL.out (afk hblt)).mono ?_;rintro e w3 ⟨rfl,_,b3,_⟩)
   go_ret2
   exact⟨by simp,HO.out.trans (b3.mono hbb)⟩
theorem zQ {w:World}{v fv:Value}{Ds:List FnD}(h:dS w v fv Ds):Fz 43 w v (jX Ds):=λw1 hb=>by
 have h1:=h.below hb
 by_cases hm:8<Ds.length
 ·have:jX Ds=4:=by unfold jX;rw[afm hm]
  rw[this]
  exact ZH h1 hm
 ·by_cases h0:Ds.length=0
  ·have:jX Ds=8:=by unfold jX;rw[afc hm,afm h0]
   rw[this]
   exact ZB h1 h0
  ·exact aaS h1 (by omega) (by omega)
structure aav (Ds:List FnD):Prop where
 n0:0<Ds.length
 n8:Ds.length<=8
 ok:∀D∈Ds,check.iY D=0
theorem MF:∀{Ds:List FnD},sF Ds=0->∀D∈Ds,check.iY D=0
 |[],_,_,h=>by cases h
 |D::Ds,h,E,hE=>by
  unfold sF at h
  by_cases hc:check.iY D=0
  ·rw[afm hc]at h
   rcases aeQ.1 hE with rfl|hE
   ·exact hc
   ·exact MF h E hE
  ·rw[afc hc]at h
   exact absurd h hc
theorem vI {Ds:List FnD}(h:jX Ds=0):aav Ds:=by
 unfold jX at h
 by_cases hm:8<Ds.length
 ·rw[afm hm]at h;exact absurd h (by decide)
 ·rw[afc hm]at h
  by_cases h0:Ds.length=0
  ·rw[afm h0]at h;exact absurd h (by decide)
  ·rw[afc h0]at h
   by_cases hb:sF Ds=0
   ·exact⟨by omega,by omega,MF hb⟩
   ·rw[afc hb]at h;exact absurd h hb
theorem a4m {Ds:List FnD}(h:yg Ds=false):Ds.length<=12/\∀D∈Ds,great.Ag D=false:=by
 unfold yg at h
 simp only[agC,afB]at h
 exact⟨by omega,λD hD=>by simpa using ahp.1 h.2 D hD⟩
theorem O9 {w:World}{v fv:Value}{Ds:List FnD}(h:dS w v fv Ds)(kt:iq w)(hc:jX Ds=0):Calls Tryz.prog 10 #[v] w (txt.a6p (jZ 0 Ds) 0 w):=by
 have k:=vI hc
 exact ada h k.n8 (λD hD=>txt.Oh (h.fn D hD) (k.ok D hD)) (λD hD=>txt.bZ (h.fn D hD) kt (k.ok D hD)) (by have:=zQ h;rwa[hc]at this)
theorem a2e {w:World}{v fv:Value}{Ds:List FnD}(h:dS w v fv Ds):Fz 7 w v (jX Ds):=λw1 hb=>by
 have h1:=h.below hb
 by_cases hm:8<Ds.length
 ·have:jX Ds=4:=by unfold jX;rw[afm hm]
  rw[this]
  exact Yw h1 hm
 ·by_cases h0:Ds.length=0
  ·have:jX Ds=8:=by unfold jX;rw[afc hm,afm h0]
   rw[this]
   exact YV h1 h0
  ·exact aa1 h1 (by omega) (by omega)
theorem Ip {α:Type}(f:α->Int)(a:α):∀l:List α,acc f (l++[a])=acc f l+f a
 |[]=>by show f a+0=0+f a;omega
 |x::l=>by show f x+acc f (l++[a])=f x+acc f l+f a;rw[Ip f a l];omega
theorem P8 {α:Type}(f:α->Int)(k:Int):∀l:List α,(∀x∈l,0<=f x/\f x<=k)->0<=acc f l/\acc f l<=k*(l.length:Nat)
 |[],_=>by constructor<;>simp[acc]
 |x::l,h=>by
  have h1:=h x afh
  have h2:=P8 f k l λy hy=>h y (afd _ hy)
  show 0<=f x+acc f l/\f x+acc f l<=k*((l.length+1:Nat):Int)
  rw[Int.natCast_add,Int.mul_add]
  have e:k*((1:Nat):Int)=k:=by simp
  rw[e]
  constructor<;>omega
theorem X8 {w:World}{v:Value}{D:FnD}(h:aZ w v D)(hc:check.iY D=0):0<=size.jl D/\size.jl D<=1000:=by
 have hs:=size.sm h hc
 have:=qp (λb:bU=>(b.st.length:Int)) 24 D.bs λb hb=>by
  have:=(hs.s b hb).1
  omega
 have hb:=hs.b
 unfold size.jl
 omega
open txt (kQ jT tFn tBk)
def U6 (Ds:List FnD):Int:=acc size.jl Ds
theorem a0y {w:World}{v fv:Value}{Ds:List FnD}(h:dS w v fv Ds)(hk:∀D∈Ds,check.iY D=0)(h8:Ds.length<=8)(hC:Fz 43 w v 0):Calls Tryz.prog 8 #[v] w (bld.Ans w (.tuple #[.int .i64 (U6 Ds),.int .i64 0])):=by
 obtain⟨A,c,e,_,hm,hr⟩:=h.rows
 unfold Fz at hC
 have HF:=Lib.hid (λ(D:FnD) (hD:D∈Ds)=>h.fn D hD)
 have HSL:=Lib.hid (λ(D:FnD) (hD:D∈Ds)=>lK (h.fn D hD))
 have HK:=Lib.hid hk
 rw[e]at hC |-
 have b0:Below w.heap.size w (w.alloc (.cells #[.slice A Ds.length c] tPr)):=(ahE _ _).alloc (aeM _) _
 have P0:(w.alloc (.cells #[.slice A Ds.length c] tPr)).heap[w.heap.size]? =some (.cells #[.slice A Ds.length c] tPr (0,0)):=ay rfl
 have HC:=Lib.hid hC
 have HR:=Lib.hid hr
 clear hC h hr e hk hm
 go_enter Tryz.func8,Tryz.ntmps8
 go_upto_region 5 with(go_at_call 43;refine(HC.out _ b0).mono ?_;rintro e w1 ⟨rfl,b1⟩)
 have b01:=b0.trans (b1.mono b0.size)
 have P1:=(b1.block _ (aeN.1 P0).1).trans P0
 have p0:w1.cell? ⟨w.heap.size,0,none⟩=some (.slice A Ds.length c):=by rw[Lib.cell_of_heap P1];rfl
 have HB1:=Lib.hid b01
 clear P0 P1 b0 b1 b01 HC
 go_wp2_with fail
 clear p0
 go_loopg [5,18] Ds.length (λg s5 s18 w8=>∃i:Nat,s5=.int .i64 (acc size.jl (Ds.take i))/\s18=.int .i64 i/\i<=Ds.length/\g=Ds.length-i/\Below w.heap.size w w8)
 case atStart=>exact⟨0,rfl,rfl,afb _,rfl,HB1.out⟩
 case round=>
  obtain⟨i,rfl,rfl,hi,rfl,hbel⟩:=hrel
  have h0I:(0:Int)<=(i:Int):=afa _
  have HO:=Lib.hid hbel
  clear hbel
  rcases afp i Ds.length with hlt|hge
  ·have hltI:(i:Int)<(Ds.length:Int):=by omega
   obtain⟨D,hD⟩:∃D,Ds[i]? =some D:=⟨_,aeK hlt⟩
   have hmem:=aeY hD
   obtain⟨g,o,eA,hg,hcell⟩:=iZ (HR.out.below HO.out) hD
   subst eA
   obtain⟨A1,c1,q1,A2,c2,q2⟩:=HSL.out D hmem
   have HNX:=Lib.hid (show acc size.jl (Ds.take (i+1))=acc size.jl (Ds.take i)+size.jl D from by rw[ag6,hD];exact Ip _ _ _)
   obtain⟨z0,z1⟩:=X8 (HF.out D hmem) (HK.out D hmem)
   obtain⟨s0,s1⟩:=P8 size.jl 1000 (Ds.take i) λx hx=>X8 (HF.out x (afW hx)) (HK.out x (afW hx))
   rw[afu]at s1
   have hFD:=size.Py ((HF.out D hmem).frz (HO.out.alloc HO.out.size (.cells #[.int .i64 D.p,.bool D.u,D.lv,D.bv] tFn)).block) (HK.out D hmem)
   rw[q1,q2]at hcell hFD
   have HCL:=Lib.hid hcell
   have HFD:=Lib.hid hFD
   clear hcell hD q1 q2 hFD hmem
   have s2:acc size.jl (Ds.take i)<=8000:=by omega
   clear s1
   generalize acc size.jl (Ds.take i)=S at *
   generalize size.jl D=Z at *
   go_wp2_with (first |(refine wpList_load_mid rfl tFn _ rfl g (o+i*4) rfl [.int .i64 D.p,.bool D.u,.slice A1 D.ls.length c1,.slice A2 D.bs.length c2] _ HCL.out Tryz.underlying40 rfl fnR ?_)|(go_at_call 11;refine HFD.out.mono ?_;rintro e w9 ⟨rfl,b9⟩))
   go_roundg (Ds.length-(i+1))
   case measure=>omega
   case rel=>exact⟨i+1,by rw[HNX.out],by simp,by omega,rfl,(HO.out.alloc HO.out.size _).trans (b9.mono (HO.out.alloc HO.out.size _).size)⟩
  ·obtain rfl:i=Ds.length:=by omega
   rw[afq]
   go_wp2_with fail
   go_ret2
   exact⟨rfl,HO.out⟩
end prg
namespace loan
open Go.RowKit Am
theorem a7h {bs:List bU}{a c i k:Nat}(hc:c<=iV bs a)(hk:k<=iV bs i)(h:aQ bs a+c<aQ bs i+k):a<i\/(a=i/\c<k):=by
 have e1:aQ bs (i+1)=aQ bs i+(iV bs i+1):=rfl
 rcases ah9 a i with h1|h1|h1
 ·exact .inl h1
 ·subst h1;exact .inr ⟨rfl,by omega⟩
 ·have:=vP (bs:=bs) (i:=i+1) (j:=a) h1
  omega
theorem ab9 {bs:List bU}{a c i k:Nat}(hc:c<=iV bs a)(hk:k<=iV bs i)(h:aQ bs i+k<=aQ bs a+c):i<a\/(i=a/\k<=c):=by
 have e1:aQ bs (a+1)=aQ bs a+(iV bs a+1):=rfl
 rcases ah9 i a with h1|h1|h1
 ·exact .inl h1
 ·subst h1;exact .inr ⟨rfl,by omega⟩
 ·have:=vP (bs:=bs) (i:=a+1) (j:=i) h1
  omega
def GZ (x y z t:Int):Int:=if x-z=0 then y-t else x-z
theorem a18 {bs:List bU}{a c i k:Nat}(hc:c<=iV bs a)(hk:k<=iV bs i)(h:aQ bs a+c<aQ bs i+k):GZ a c i k<0:=by
 unfold GZ
 rcases a7h hc hk h with h|⟨rfl,h⟩
 ·rw[afc (by omega)];omega
 ·rw[afm (by omega)];omega
theorem a7g {bs:List bU}{a c i k:Nat}(hc:c<=iV bs a)(hk:k<=iV bs i)(h:aQ bs i+k<=aQ bs a+c):¬GZ a c i k<0:=by
 unfold GZ
 rcases ab9 hc hk h with h|⟨rfl,h⟩
 ·rw[afc (by omega)];omega
 ·rw[afm (by omega)];omega
theorem a1D (a c:Int):GZ a c a c=0:=by unfold GZ;simp
end loan
namespace prg
open Go.RowKit Am loan bld
theorem a7e {w:World}{v:Value}{D:FnD}(h:aZ w v D)(h24:D.bs.length<=24){b i:Nat}{x:bU}(hx:D.bs[b]? =some x)(hi:i<=x.st.length)(hst:x.st.length<=1000):
  Calls Tryz.prog 107 #[v,.agg #[.int .i64 (b:Nat),.int .i64 (i:Nat)]] w (bld.Ans w (.bool true)):=by
 obtain⟨A1,c1,q1,A2,c2,q2⟩:=lK h
 obtain⟨A,c,e,_,hr⟩:=bT.rows h.blocks (by decide)
 obtain⟨As,cs,e2,_⟩:=jV.KD (h.blk x (aeY hx))
 have hb:=(aeU.1 hx).1
 have eA:A2=A:=by rw[q2]at e;injection e
 subst eA
 obtain⟨gb,ob,rfl,hg,hrng⟩:=hr b x.cells (by rw[aeT,hx];rfl)
 have k4:w.cell? ⟨gb,ob+b*14,none⟩=some (.slice As x.st.length cs):=by have:=hrng 0 _ rfl;rw[afS]at this;rw[this,e2]
 rw[h.eq,q1,q2]
 have hbI:(b:Int)<(D.bs.length:Int):=by omega
 have hiI:(i:Int)<=(x.st.length:Int):=by omega
 have b0:(0:Int)<=(b:Int):=afa _
 have i0:(0:Int)<=(i:Int):=afa _
 have g1:decide ((b:Int)>=0)=true:=afn b0
 have g2:decide ((i:Int)>=0)=true:=afn i0
 have g3:decide ((b:Int)<(D.bs.length:Int))=true:=afn hbI
 have g4:decide ((i:Int)<=(x.st.length:Int))=true:=afn hiI
 clear h hr e e2 hrng hx q1 q2
 generalize D.bs.length=n at *
 generalize x.st.length=m at *
 go_enter Tryz.func107,Tryz.ntmps107
 go_upto_region 1 with fail
 generalize hw1:World.alloc (World.alloc w _) _=w1
 have bel:Below w.heap.size w w1:=by rw[<-hw1];exact((ahE _ w).alloc (aeM _) _).alloc (by simp) _
 have d0:w1.drew.cell? ⟨w.heap.size+1,0,none⟩=some (.int .i64 (b:Nat)):=by rw[<-hw1];exact ahF _ (w.heap.size+1) 0 _ _ (0,0) (ay (by simp))
 have d1:w1.drew.cell? ⟨w.heap.size+1,1,none⟩=some (.int .i64 (i:Nat)):=by rw[<-hw1];exact ahF _ (w.heap.size+1) 1 _ _ (0,0) (ay (by simp))
 have d3:w1.drew.cell? ⟨w.heap.size,3,none⟩=some (.slice (some ⟨gb,ob,none⟩) n c2):=by rw[<-hw1];exact ahF _ w.heap.size 3 _ _ (0,0) (dA (ay rfl))
 have d4:w1.drew.cell? ⟨gb,ob+b*14,none⟩=some (.slice As m cs):=(bel.cell (p:=⟨gb,ob+b*14,none⟩) hg).trans k4
 clear hw1 k4
 refine bH [⟨w.heap.size+1,0,none⟩,⟨w.heap.size+1,1,none⟩,⟨w.heap.size,3,none⟩,⟨gb,ob+b*14,none⟩] [(0,true),(1,true),(2,true),(3,true),(4,true),(5,true),(6,true),(7,true),(8,true),(9,true),(10,true),(11,true),(12,true),(13,true),(14,true),(15,true),(16,true),(17,true),(18,true),(19,true),(20,true),(21,true),(22,true),(23,true),(24,true),(25,true),(26,true),(27,true),(28,true),(29,true)] (by kernel_rfl) (by kernel_rfl) (by decide) (by kernel_rfl) (λ_ _ _ _ _ h=>h) ?_
 iterate 30 (refine SeqC.take (v:=?_) rfl (by rfl) (λW hW=>?_) ?_;rotate_left;(focus(have z0:=hW.get (by simp) d0;have z1:=hW.get (by simp) d1;have z3:=hW.get (by simp) d3;have z4:=hW.get (by simp) d4;go_simp;with_reducible rfl));simp only[Act.put,aeJ,aeP,aeO])
 refine SeqC.done ?_
 have HB:=Lib.hid bel.drew
 clear d0 d1 d3 d4 bel
 generalize w1.drew=w2 at *
 go_wp2_with fail
 go_ret
 exact⟨rfl,HB.out⟩
theorem a6w {w:World}{v:Value}{D:FnD}(h:aZ w v D)(hc:check.iY D=0)(h24:D.bs.length<=24){b i:Nat}{x:bU}(hx:D.bs[b]? =some x)(hi:i<=x.st.length)(hst:x.st.length<=1000):
  Calls Tryz.prog 50 #[v,.agg #[.int .i64 (b:Nat),.int .i64 (i:Nat)]] w (bld.Ans w (.int .i64 0)):=by
 obtain⟨A1,c1,q1,A2,c2,q2⟩:=lK h
 have HCK:=Lib.hid (λ(W:World) (hW:Below w.heap.size w W)=>check.uT (h.frz hW.block))
 have HTH:=Lib.hid (λ(W:World) (hW:Below w.heap.size w W)=>a7e (h.frz hW.block) h24 hx hi hst)
 rw[hc,h.eq,q1,q2]at HCK
 rw[h.eq,q1,q2]at HTH |-
 clear h hc hx hi hst q1 q2 h24
 generalize D.bs.length=n at *
 generalize D.ls.length=m at *
 generalize D.p=p at *
 generalize D.u=u at *
 have b0:Below w.heap.size w ((w.alloc (.cells #[.int .i64 p,.bool u,.slice A1 m c1,.slice A2 n c2] 40)).alloc (.cells #[.int .i64 (b:Nat),.int .i64 (i:Nat)] 49)):=((ahE _ w).alloc (aeM _) _).alloc (by simp) _
 have P0:((w.alloc (.cells #[.int .i64 p,.bool u,.slice A1 m c1,.slice A2 n c2] 40)).alloc (.cells #[.int .i64 (b:Nat),.int .i64 (i:Nat)] 49)).heap[w.heap.size]? =some (.cells #[.int .i64 p,.bool u,.slice A1 m c1,.slice A2 n c2] 40 (0,0)):=dA (ay rfl)
 have P1:((w.alloc (.cells #[.int .i64 p,.bool u,.slice A1 m c1,.slice A2 n c2] 40)).alloc (.cells #[.int .i64 (b:Nat),.int .i64 (i:Nat)] 49)).heap[w.heap.size+1]? =some (.cells #[.int .i64 (b:Nat),.int .i64 (i:Nat)] 49 (0,0)):=ay (by simp)
 go_enter Tryz.func50,Tryz.ntmps50
 go_upto_region 4 with(go_at_call 47;refine(HCK.out _ b0).mono ?_;rintro e w1 ⟨rfl,b1⟩)
 have R0:=(b1.block _ (aeN.1 P0).1).trans P0
 have R1:=(b1.block _ (aeN.1 P1).1).trans P1
 have HB:=Lib.hid (b0.trans (b1.mono b0.size))
 have c0:w1.cell? ⟨w.heap.size,0,none⟩=some (.int .i64 p):=by rw[Lib.cell_of_heap R0];rfl
 have c1':w1.cell? ⟨w.heap.size,1,none⟩=some (.bool u):=by rw[Lib.cell_of_heap R0];rfl
 have c2':w1.cell? ⟨w.heap.size,2,none⟩=some (.slice A1 m c1):=by rw[Lib.cell_of_heap R0];rfl
 have c3:w1.cell? ⟨w.heap.size,3,none⟩=some (.slice A2 n c2):=by rw[Lib.cell_of_heap R0];rfl
 have e0:w1.cell? ⟨w.heap.size+1,0,none⟩=some (.int .i64 (b:Nat)):=by rw[Lib.cell_of_heap R1];rfl
 have e1:w1.cell? ⟨w.heap.size+1,1,none⟩=some (.int .i64 (i:Nat)):=by rw[Lib.cell_of_heap R1];rfl
 clear P0 P1 R0 R1 b0 b1
 go_wp2_with (go_at_call 107;refine(HTH.out _ HB.out).mono ?_;rintro e w9 ⟨rfl,b9⟩)
 go_ret
 exact⟨rfl,HB.out.trans (b9.mono HB.out.size)⟩
