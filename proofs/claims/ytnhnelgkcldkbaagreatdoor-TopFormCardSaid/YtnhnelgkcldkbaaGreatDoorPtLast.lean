/- program.from at the first function of a sound program. -/
import Derived.Test.YtnhnelgkcldkbaaGreatDoorPgRange
import Derived.Test.YtnhnelgkcldkbaaGreatDoorPtReach
set_option linter.all false
set_option maxHeartbeats 8000000
set_option maxRecDepth 100000
namespace Go.Proofs.YtnhnelgkcldkbaaGreatDoor
namespace prg
open Go.RowKit Go.Maps Am loan bld
theorem inI:(Tryz.prog.info? 3).map (λi=>(i.zero,i.size,i.bytes))=some (some (.int .i64 0),1,8):=by kernel_rfl
theorem OQ:Keyed Tryz.prog 3:=int_keyed Tryz.underlying3
theorem KW (w:World):(zeroValue 4).run Tryz.prog w=.ok (.bool false) w:=by kernel_rfl
abbrev abe (w:World)(M:Nat)(s:Nat->Bool):Prop:=zi Tryz.prog 3 4 w M s
theorem QM {w w':World}{s:Value}{l:List Int}(h:zK w w' s (l.map (Value.int .i64))):∃A c,s=.slice A l.length c/\dR w' A 1 (l.map λt=>[.int .i64 t])/\∀g o s,A=some ⟨g,o,s⟩->w.heap.size<=g:=by
 generalize hl:l.map (Value.int .i64)=us at h
 have hn:us.length=l.length:=by rw[<-hl,af4]
 cases h with
 |none=>
  obtain rfl:l=[]:=by simpa using hl
  exact⟨none,0,rfl,λi el hi=>by simp at hi,λ_ _ _ e=>by cases e⟩
 | @row g cap C T fz us hp hg hnew hfz hcn hmx hcap hus=>
  refine⟨some ⟨g,0,none⟩,cap,by rw[hn],λi el hi=>?_,λ_ _ _ e=>by cases e;exact hg⟩
  rw[aeT]at hi
  obtain⟨y,hy,rfl⟩:=afV.1 hi
  refine⟨g,0,rfl,(aeN.1 hnew).1,λj u hj=>?_⟩
  cases j with
  |zero=>
   have hu:us[i]? =some (.int .i64 y):=by rw[<-hl,aeT,hy];rfl
   rw[show u=.int .i64 y by simpa[eq_comm]using hj,ahF w' g _ C T fz hnew]
   rw[<-hus,afQ]at hu
   split at hu
   ·simpa using hu
   ·cases hu
  |succ j=>simp at hj
structure FI (w1:World)(M n:Nat)(Av:Nat->Prop)(wr:World)(s:Nat->Bool)(v:Value)(xs:List Int):Prop where
 bel:Below M w1 wr
 set:abe wr M s
 que:Que wr Av v xs
 lim:∀x∈xs,∃c:Nat,x=c/\c<n
section
variable {w1 wr W w':World} {M n:Nat} {Av Av':Nat->Prop} {s:Nat->Bool} {v v':Value} {xs:List Int}
theorem FI.avoid (h:FI w1 M n Av wr s v xs)(hA:∀k,k<wr.heap.size->Av' k->Av k):FI w1 M n Av' wr s v xs:=⟨h.bel,h.set,h.que.avoid hA,h.lim⟩
theorem FI.below (h:FI w1 M n Av wr s v xs)(hb:Below wr.heap.size wr w'):FI w1 M n Av w' s v xs:=
 ⟨h.bel.trans (hb.mono (afk h.set.lt)),h.set.keep (hb.block M h.set.lt),h.que.below hb,h.lim⟩
theorem FI.put {s':Nat->Bool}(h:FI w1 M n Av wr s v xs)(hA:Av M)(hs:abe w' M s')(hg:wr.grownBy w' (some M)):FI w1 M n Av w' s' v xs:=
 ⟨h.bel.grown hg (afk h.set.lt) (λk e=>by cases e;exact aeM M),hs,h.que.keep λk hk hl=>hg.block k hl λe=>hk (by cases e;exact hA),h.lim⟩
theorem FI.push {c:Nat}(h:FI w1 M n Av W s v xs)(hk:Ea Av W w')(hA:∀k,k<=M->Av k)(hq:Que w' Av v' (xs++[(c:Int)]))(hc:c<n):FI w1 M n Av w' s v' (xs++[(c:Int)]):=
 ⟨h.bel.trans (hk.below (afk h.set.lt) λk hk=>hA k (afk hk)),h.set.keep (hk.block M (hA M (aeM M)) h.set.lt),hq,λx hx=>by
  rcases afl.1 hx with hx|hx
  ·exact h.lim x hx
  ·exact⟨c,by simpa using hx,hc⟩⟩
theorem a3H (bs:List Bool):(callsF.lits bs).length<=8:=by
 unfold callsF.lits
 rw[af4]
 exact afv (List.length_filter_le _ _) (by simp)
end
def abJ (w:World)(e:Ending)(w':World):Prop:=∃M s,e=.returned (.map (some M))/\abe w' M s/\w.heap.size<=M/\Below w.heap.size w w'
theorem ab4 {w:World}{v fv:Value}{Ds:List FnD}(h:dS w v fv Ds)(hk:∀D∈Ds,check.iY D=0)(h0:0<Ds.length)(h8:Ds.length<=8)(hcl:∀D∈Ds,∀t∈callsF.lits (callsF.vec D),∃c:Nat,t=c/\c<Ds.length):
  Calls Tryz.prog 44 #[v,.int .i64 0] w (abJ w):=by
 obtain⟨A,c,e,_,hm,hr⟩:=h.rows
 have HF:=Lib.hid (λ(D:FnD) (hD:D∈Ds)=>h.fn D hD)
 have HSL:=Lib.hid (λ(D:FnD) (hD:D∈Ds)=>lK (h.fn D hD))
 have HK:=Lib.hid hk
 have HCL:=Lib.hid hcl
 rw[e]
 obtain⟨w1,hw1⟩:∃w1,w1=w.alloc (.cells #[.slice A Ds.length c] 24):=⟨_,rfl⟩
 have b0:Below w.heap.size w w1:=by rw[hw1];exact(ahE _ _).alloc (aeM _) _
 have P0:w1.heap[w.heap.size]? =some (.cells #[.slice A Ds.length c] 24 (0,0)):=by rw[hw1];exact ay rfl
 have s1:w1.heap.size=w.heap.size+1:=by rw[hw1];simp
 have HR:=Lib.hid hr
 have HB0:=Lib.hid b0
 have HP0:=Lib.hid P0
 clear hr h e hk hm hcl b0 P0
 generalize hn:Ds.length=n at *
 have HN:=Lib.hid hn
 clear hn
 have hmm:=@run_makeMap Tryz.prog
 go_enter Tryz.func44,Tryz.ntmps44
 go_wp2_with fail
 rw[<-hw1]
 have hst:FI w1 (w.heap.size+1) n (λk=>k<=w.heap.size+1) ((w1.alloc (.map #[] 0)).alloc (.cells #[.int .i64 0] 3)) (λ_=>false) (.slice (some ⟨w.heap.size+1+1,0,none⟩) 1 1) [0]:=by
  rw[<-s1]
  refine⟨((ahE _ w1).alloc (aeM _) _).alloc (by simp) _,(zi.made (w:=w1)).keep ?_,Que.one (ay (by simp)) (by omega),λx hx=>⟨0,by simpa using hx,h0⟩⟩
  exact Below.heap_alloc _ _ _ (by simp)
 have HST:=Lib.hid hst
 clear hst hmm
 generalize hM:w.heap.size+1=M at *
 generalize (w1.alloc (.map #[] 0)).alloc (.cells #[.int .i64 0] 3)=w2 at *
 go_loopg [6] 17 (λf s6 wr=>∃s xs,FI w1 M n (λk=>k<=M) wr s s6 xs/\2*unS s+xs.length<=f/\f<=17)
 case atStart=>exact⟨_,[0],HST.out,by decide,aeM _⟩
 case round=>
  obtain⟨s,xs,hfi,hf,hle⟩:=hrel
  have HQ:=Lib.hid hfi
  clear hfi HST
  rcases List.eq_nil_or_concat xs with rfl|⟨r,x,e⟩
  ·obtain⟨g,o,cc,rfl,_⟩:=HQ.out.que.ex
   go_wp2_with fail
   go_ret
   exact⟨M,s,rfl,HQ.out.set,by omega,HB0.out.trans (HQ.out.bel.mono (by omega))⟩
  ·rw[List.concat_eq_append]at e
   subst e
   obtain⟨g,o,cc,rfl,hcc,hcell,hpop⟩:=HQ.out.que.last
   obtain⟨b,rfl,hbn⟩:=HQ.out.lim x (by simp)
   have HPOP:=Lib.hid hpop
   have hBW:Below w.heap.size w wr:=HB0.out.trans (HQ.out.bel.mono (by omega))
   have P2:=(HQ.out.bel.block w.heap.size (by omega)).trans HP0.out
   have z0:wr.cell? ⟨w.heap.size,0,none⟩=some (.slice A n c):=by rw[Lib.cell_of_heap P2];rfl
   have hMw:M<wr.heap.size:=HQ.out.set.lt
   obtain⟨D,hD⟩:∃D,Ds[b]? =some D:=⟨_,aeK (by rw[HN.out];exact hbn)⟩
   have hmem:=aeY hD
   obtain⟨gF,oF,eA,hgF,hcF⟩:=iZ (HR.out.below hBW) hD
   subst eA
   obtain⟨A1,c1,q1,A2,c2,q2⟩:=HSL.out D hmem
   have hFD:=callsF.Z7 ((HF.out D hmem).frz hBW.block) (HK.out D hmem)
   have hLD:=HCL.out D hmem
   have hL8:=a3H (callsF.vec D)
   rw[q1,q2]at hcF hFD
   have HCF:=Lib.hid hcF
   have HFD:=Lib.hid hFD
   have HLD:=Lib.hid hLD
   have hbI:(b:Int)<(n:Int):=by omega
   have b0I:(0:Int)<=(b:Int):=afa _
   rw[aeL]at hf
   have hf2:2*unS s+(r.length+1)<=gk:=hf
   have hrL:r.length+1<=17:=by omega
   have l0I:(0:Int)<((r.length:Int)+1):=by omega
   clear hpop hf hcF hFD hLD hD q1 q2 hmem P2
   generalize callsF.lits (callsF.vec D)=ts at *
   generalize hL:r.length=L at *
   go_upto_region 7 with(first |(refine wpList_load_mid rfl 40 _ rfl gF (oF+b*4) rfl [.int .i64 D.p,.bool D.u,.slice A1 D.ls.length c1,.slice A2 D.bs.length c2] _ HCF.out Tryz.underlying40 rfl fnR ?_)|(go_at_call 99;refine HFD.out.mono ?_;rintro e w5 ⟨s5,rfl,hnr,hb5⟩;obtain⟨A5,c5,rfl,hrows,hnew⟩:=QM hnr))
   have HI5:=Lib.hid ((show FI w1 M n (λk=>k<=M\/∃o s,A5=some ⟨k,o,s⟩) wr s (.slice (some ⟨g,o,none⟩) L cc) r from⟨HQ.out.bel,HQ.out.set,HPOP.out.avoid λk hk h=>h.elim id λ⟨o,s,e⟩=>absurd (hnew k o s e) (by omega),λx hx=>HQ.out.lim x (List.mem_append_left _ hx)⟩).below hb5)
   have HR5:=Lib.hid hrows
   have HG5:=Lib.hid (λg o s e=>afe hMw (hnew g o s e))
   clear hrows hnew hb5 hnr z0 HPOP hcell HFD HCF hcc l0I
   generalize Value.slice (some ⟨g,o,none⟩) L cc=v6 at *
   have hM2:2*unS s+r.length<gk:=by omega
   go_wp2_with fail
   go_loopg [6,40] ts.length (λf s6 s40 wx=>∃(k:Nat) (s':Nat->Bool) (xs:List Int),s40=.int .i64 k/\k<=ts.length/\f=ts.length-k/\FI w1 M n (λk=>k<=M\/∃o s,A5=some ⟨k,o,s⟩) wx s' s6 xs/\dR wx A5 1 (ts.map λt=>[.int .i64 t])/\2*unS s'+xs.length<=2*unS s+r.length)
   case atStart=>exact⟨0,s,r,rfl,afb _,rfl,HI5.out,HR5.out,aeM _⟩
   case round=>
    obtain⟨k,s2,xs,rfl,hk,rfl,hri,hrows,hM3⟩:=hrel
    have k0I:(0:Int)<=(k:Int):=afa _
    have HI:=Lib.hid hri
    have HRW:=Lib.hid hrows
    clear hri hrows
    rcases afp k ts.length with hlt|hge
    ·have hltI:(k:Int)<(ts.length:Int):=by omega
     obtain⟨τ,hτ⟩:∃τ,ts[k]? =some τ:=⟨_,aeK hlt⟩
     obtain⟨a,rfl,han⟩:=HLD.out τ (aeY hτ)
     obtain⟨gt,ot,rfl,hgt,hrt⟩:=HRW.out k _ (by rw[aeT,hτ];rfl)
     have hc:wr.cell? ⟨gt,ot+k,none⟩=some (.int .i64 (a:Nat)):=by have:=hrt 0 _ rfl;rw[agm]at this;exact this
     have ha8:a<8:=by omega
     have hlook:=HI.out.set.look (tm:=104) OQ Tryz.underlying3 Tryz.underlying4 Tryz.underlying104 (KW wr) ha8
     have HTK:=Lib.hid hτ
     clear hτ hrt
     cases hs:s2 a with
     |true=>
      rw[hs]at hlook
      clear hs
      go_wp2_with fail
      go_roundg (ts.length-(k+1))
      case measure=>omega
      case rel=>exact⟨k+1,s2,xs,by simp,by omega,rfl,HI.out,HRW.out,hM3⟩
     |false=>
      rw[hs]at hlook
      have HSA:=Lib.hid hs
      clear hs
      go_upto_region 12 with(at_mapUpdate;refine Qc rfl _ _ _ rfl OQ Tryz.underlying3 Tryz.underlying4 Tryz.underlying104 rfl HI.out.set ha8 HSA.out rfl rfl ?_;intro w6 hs6 hg6)
      have hMg:=HG5.out gt ot none rfl
      have HI2:=Lib.hid (HI.out.put (.inl (aeM M)) hs6 hg6)
      have HR2:=Lib.hid (yP HRW.out (w':=w6) (λg o s e hl=>hg6.block g hl λh=>by cases e;cases h;omega) hg6.size)
      have hu:=XG ha8 HSA.out
      clear hc HI HRW HSA hlook hs6 hg6
      have HI3:=Lib.hid (HI2.out.below ((ahE _ w6).alloc (aeM _) (.cells #[.int .i64 (a:Nat)] 3)))
      have HR3:=Lib.hid (HR2.out.below ((ahE _ w6).alloc (aeM _) (.cells #[.int .i64 (a:Nat)] 3)))
      have hA3:∀j,(j<=M\/∃o s,some (⟨gt,ot,none⟩:Addr)=some ⟨j,o,s⟩)->j<(w6.alloc (.cells #[.int .i64 (a:Nat)] 3)).heap.size:=λj hj=>by
       have h1:=HI3.out.set.lt
       obtain⟨g',o',e',h2,_⟩:=HR3.out k [.int .i64 (a:Nat)] (by rw[aeT,HTK.out];rfl)
       rcases hj with h|⟨o,s,e⟩
       ·omega
       ·cases e;cases e';exact h2
      go_wp2_with (at_builtin;refine Jw rfl _ _ 31 rfl 3 Tryz.underlying31 inI rfl HI3.out.que (a:Nat) w6.heap.size rfl 3 (ay rfl) (by omega) hA3 ?_;intro v7 w7 hq7 hk7)
      go_roundg (ts.length-(k+1))
      case measure=>omega
      case rel=>exact⟨k+1,a1z s2 a,xs++[(a:Int)],by simp,by omega,rfl,HI3.out.push hk7 (λj hj=>.inl hj) hq7 han,yP HR3.out (λg o s e hg=>hk7.block g (.inr ⟨o,s,e⟩) hg) hk7.size,by rw[aeL];simp only[afi,afC];omega⟩
    ·obtain rfl:k=ts.length:=by omega
     go_wp2_with fail
     go_roundg (2*unS s2+xs.length)
     case measure=>omega
     case rel=>exact⟨s2,xs,HI.out.avoid (λj _ h=>.inl h),aeM _,by omega⟩
def aaE (w:World)(e:Ending)(w':World):Prop:=∃g o n c,e=.returned (.tuple #[.slice (some ⟨g,o,none⟩) n c,.int .i64 0])/\0<n/\w'.cell? ⟨g,o,none⟩=some (.int .i64 0)/\Below w.heap.size w w'
theorem a7f {w:World}{v fv:Value}{Ds:List FnD}(h:dS w v fv Ds)(hk:∀D∈Ds,check.iY D=0)(h0:0<Ds.length)(h8:Ds.length<=8)(hcl:∀D∈Ds,∀t∈callsF.lits (callsF.vec D),∃c:Nat,t=c/\c<Ds.length)(hC:∀w1,Below w.heap.size w w1->Calls Tryz.prog 43 #[v] w1 (bld.Ans w1 (.int .i64 0))):
  Calls Tryz.prog 9 #[v] w (aaE w):=by
 have HFR:=Lib.hid (λ(W:World) (hW:Below w.heap.size w W)=>ab4 (h.below hW) hk h0 h8 hcl)
 obtain⟨A,c,e,_,hm,hr⟩:=h.rows
 rw[e]at hC HFR |-
 have b0:Below w.heap.size w (w.alloc (.cells #[.slice A Ds.length c] tPr)):=(ahE _ _).alloc (aeM _) _
 have P0:(w.alloc (.cells #[.slice A Ds.length c] tPr)).heap[w.heap.size]? =some (.cells #[.slice A Ds.length c] tPr (0,0)):=ay rfl
 have HC:=Lib.hid hC
 clear hC h hr e hk hm hcl
 generalize Ds.length=n at *
 go_enter Tryz.func9,Tryz.ntmps9
 go_upto_region 4 with(go_at_call 43;refine(HC.out _ b0).mono ?_;rintro e w1 ⟨rfl,b1⟩)
 have b01:=b0.trans (b1.mono b0.size)
 have P1:=(b1.block _ (aeN.1 P0).1).trans P0
 have p0:w1.cell? ⟨w.heap.size,0,none⟩=some (.slice A n c):=by rw[Lib.cell_of_heap P1];rfl
 have HB1:=Lib.hid b01
 have HP1:=Lib.hid P1
 clear P0 P1 b0 b1 b01 HC
 go_upto_region 5 with(go_at_call 44;refine(HFR.out _ HB1.out).mono ?_;rintro e w2 ⟨M,s,rfl,hs,hM,b2⟩)
 have hw1:w.heap.size<w1.heap.size:=(aeN.1 HP1.out).1
 have P2:=(b2.block _ hw1).trans HP1.out
 have HB2:=Lib.hid (HB1.out.trans (b2.mono HB1.out.size))
 have HP2:=Lib.hid P2
 have HS:=Lib.hid hs
 have hw2:w.heap.size<w2.heap.size:=afe hw1 b2.size
 clear p0 P2 b2 hs HFR
 go_wp2_with fail
 go_loopg [6,7] (n-1) (λf s6 s7 wr=>∃(m:Nat) (xs:List Int),s7=.int .i64 m/\1<=m/\m<=n/\f=n-m/\xs.length<=m/\xs[0]? =some 0/\wr.ownsRow w2.heap.size 3 1 s6 xs.length (xs.map (Value.int .i64))/\Below w2.heap.size w2 wr)
 case atStart=>exact⟨1,[0],rfl,aeM _,h0,rfl,aeM _,rfl,World.ownsRow_lit w2 #[.int .i64 0] 1 (aeM _) (by simp[maxLen]) rfl,(ahE _ _).alloc (aeM _) _⟩
 case round=>
  obtain⟨m,xs,rfl,h1,hmn,rfl,hxm,hx0,hown,hbel⟩:=hrel
  have m0I:(0:Int)<=(m:Int):=afa _
  have P3:=(hbel.block _ hw2).trans HP2.out
  have z0:wr.cell? ⟨w.heap.size,0,none⟩=some (.slice A n c):=by rw[Lib.cell_of_heap P3];rfl
  have HO:=Lib.hid hown
  have HX:=Lib.hid hx0
  have HB:=Lib.hid hbel
  have HS3:=Lib.hid (HS.out.keep (hbel.block M HS.out.lt))
  clear hown hx0 hbel P3
  rcases afp m n with hlt|hge
  ·have hltI:(m:Int)<(n:Int):=by omega
   have hlook:=HS3.out.look (tm:=104) OQ Tryz.underlying3 Tryz.underlying4 Tryz.underlying104 (KW wr) (c:=m) (by omega)
   cases hs:s m with
   |false=>
    rw[hs]at hlook
    clear hs
    go_wp2_with fail
    go_roundg (n-(m+1))
    case measure=>omega
    case rel=>exact⟨m+1,xs,by simp,by omega,by omega,rfl,by omega,HX.out,HO.out,HB.out⟩
   |true=>
    rw[hs]at hlook
    clear hs
    go_wp2_with (at_builtin;refine rH rfl _ _ 31 rfl w2.heap.size 3 (.int .i64 0) 1 8 Tryz.underlying31 inI rfl (by decide) _ _ _ rfl (HO.out.alloc _) [.int .i64 (m:Nat)] _ 1 rfl (ay rfl) rfl (by simp[Value.oneCell']) (by omega) (by omega) (HB.out.alloc HB.out.size _) (by have:=HB.out.size;simp;omega) ?_;intro v7 w7 hown7 hbel7)
    go_roundg (n-(m+1))
    case measure=>omega
    case rel=>exact⟨m+1,xs++[(m:Int)],by simp,by omega,by omega,rfl,by rw[aeL];simp only[afi,afC];omega,by rw[af5 (aeU.1 HX.out).1];exact HX.out,by rw[aeL,afX];exact hown7,hbel7⟩
  ·obtain rfl:m=n:=by omega
   go_wp2_with fail
   go_ret2
   have hpos:=(aeU.1 HX.out).1
   rcases HO.out.2 with⟨_,e0⟩|⟨g7,cap,cur,rfl,_⟩
   ·omega
   ·exact⟨g7,0,_,_,rfl,hpos,by rw[HO.out.cellAt 0 (by omega),aeT,HX.out];rfl,HB2.out.trans (HB.out.mono HB2.out.size)⟩
open txt (uK)
def JX (K n e:Int):List Int:=if K=3\/K=5 then[]else if K=2/\n≠e then[n,e]else[n]
def tgt (b:bU):List Int:=JX (ah b.pre 0) (ah b.pre 7) (ah b.pre 8)
theorem SA {l:List Value}(h:au Kd.ok qM l):∃K a0 a1 a2 a3 a4 f n e,l=[.int .u8 K,.int .u8 a0,.int .i64 a1,.int .i64 a2,.bool a3,.int .u8 a4,.int .i64 f,.int .i64 n,.int .i64 e]:=by
 obtain⟨_,_,rfl,⟨K,rfl,_⟩,h0⟩:=aN h
 obtain⟨_,_,rfl,⟨a0,rfl,_⟩,h1⟩:=aN h0
 obtain⟨_,_,rfl,⟨a1,rfl,_⟩,h2⟩:=aN h1
 obtain⟨_,_,rfl,⟨a2,rfl,_⟩,h3⟩:=aN h2
 obtain⟨_,_,rfl,⟨a3,rfl⟩,h4⟩:=aN h3
 obtain⟨_,_,rfl,⟨a4,rfl,_⟩,h5⟩:=aN h4
 obtain⟨_,_,rfl,⟨f,rfl,_⟩,h6⟩:=aN h5
 obtain⟨_,_,rfl,⟨n,rfl,_⟩,h7⟩:=aN h6
 obtain⟨_,_,rfl,⟨e,rfl,_⟩,h8⟩:=aN h7
 obtain rfl:=jY h8
 exact⟨K,a0,a1,a2,a3,a4,f,n,e,rfl⟩
theorem MS {l:List Value}(h:au Kd.ok kW l):∃a b c,l=[.int .i64 a,.bool b,.int .u8 c]:=by
 obtain⟨_,_,rfl,⟨a,rfl,_⟩,h0⟩:=aN h
 obtain⟨_,_,rfl,⟨b,rfl⟩,h1⟩:=aN h0
 obtain⟨_,_,rfl,⟨c,rfl,_⟩,h2⟩:=aN h1
 obtain rfl:=jY h2
 exact⟨a,b,c,rfl⟩
theorem aao {w:World}{b:bU}(h:jV w b)(hc:okJ b.pre b.ops b.post=true):Calls Tryz.prog 49 #[.agg (b.pre++b.a::b.post).toArray] w (aaK (tgt b) w):=by
 have HC:=Lib.hid (λ(W:World) (hW:Below w.heap.size w W)=>BO W _ _ _ _ _ (uK ⟨h.sts.frz hW.block,h.skd,h.rJ,h.opl.frz hW.block,h.okd,h.mZ⟩))
 rw[hc,show v8 true=.int .i64 0 from rfl]at HC
 unfold tgt
 obtain⟨A,c,ea,_⟩:=bT.rows h.opl (by decide)
 have hp:=h.rJ
 have hq:=h.mZ
 clear h hc
 generalize b.pre=pre at *
 generalize b.post=post at *
 rw[ea]at HC |-
 generalize b.ops.length=no at *
 obtain⟨K,a0,a1,a2,a3,a4,f,n,e,rfl⟩:=SA hp
 obtain⟨l,d,g,rfl⟩:=MS hq
 show Calls _ _ _ _ (aaK (JX K n e) w)
 have hh:([Value.int .u8 K,.int .u8 a0,.int .i64 a1,.int .i64 a2,.bool a3,.int .u8 a4,.int .i64 f,.int .i64 n,.int .i64 e]++(Value.slice A no c)::[.int .i64 l,.bool d,.int .u8 g]).toArray=#[.int .u8 K,.int .u8 a0,.int .i64 a1,.int .i64 a2,.bool a3,.int .u8 a4,.int .i64 f,.int .i64 n,.int .i64 e,.slice A no c,.int .i64 l,.bool d,.int .u8 g]:=rfl
 rw[hh]at HC |-
 clear hp hq hh ea
 generalize hT:JX K n e=ts
 have HT:=Lib.hid hT
 clear hT
 have b0:Below w.heap.size w (w.alloc (.cells #[.int .u8 K,.int .u8 a0,.int .i64 a1,.int .i64 a2,.bool a3,.int .u8 a4,.int .i64 f,.int .i64 n,.int .i64 e,.slice A no c,.int .i64 l,.bool d,.int .u8 g] 81)):=(ahE _ _).alloc (aeM _) _
 have P0:(w.alloc (.cells #[.int .u8 K,.int .u8 a0,.int .i64 a1,.int .i64 a2,.bool a3,.int .u8 a4,.int .i64 f,.int .i64 n,.int .i64 e,.slice A no c,.int .i64 l,.bool d,.int .u8 g] 81)).heap[w.heap.size]? =some (.cells #[.int .u8 K,.int .u8 a0,.int .i64 a1,.int .i64 a2,.bool a3,.int .u8 a4,.int .i64 f,.int .i64 n,.int .i64 e,.slice A no c,.int .i64 l,.bool d,.int .u8 g] 81 (0,0)):=ay rfl
 go_enter Tryz.func49,Tryz.ntmps49
 go_upto_region 2 with(go_at_call 80;refine(HC.out _ b0).mono ?_;rintro e1 w1 ⟨rfl,b1⟩)
 have P1:=(b1.block _ (aeN.1 P0).1).trans P0
 have HB:=Lib.hid (b0.trans (b1.mono b0.size))
 have c0:w1.cell? ⟨w.heap.size,0,none⟩=some (.int .u8 K):=by rw[Lib.cell_of_heap P1];rfl
 have c7:w1.cell? ⟨w.heap.size,7,none⟩=some (.int .i64 n):=by rw[Lib.cell_of_heap P1];rfl
 have c8:w1.cell? ⟨w.heap.size,8,none⟩=some (.int .i64 e):=by rw[Lib.cell_of_heap P1];rfl
 have hsz:=Lib.hid b0.size
 clear P0 P1 b0 b1 HC
 have e0:=HT.out
 clear HT
 unfold JX at e0
 by_cases h3:K=3\/K=5
 ·rw[afm h3]at e0
  subst e0
  rcases h3 with rfl|rfl
  ·go_wp2_with fail
   go_ret2
   exact⟨none,0,rfl,Xn,λ_ _ _ e=>(by cases e),HB.out⟩
  ·go_wp2_with fail
   go_ret2
   exact⟨none,0,rfl,Xn,λ_ _ _ e=>(by cases e),HB.out⟩
 ·rw[afc h3]at e0
  have h31:¬K=3:=λh=>h3 (.inl h)
  have h35:¬K=5:=λh=>h3 (.inr h)
  clear h3
  by_cases h2:K=2/\n≠e
  ·rw[afm h2]at e0
   obtain⟨rfl,hne⟩:=h2
   have hb:(n != e)=true:=by simp[hne]
   subst e0
   go_wp2_with fail
   go_ret2
   exact⟨_,_,rfl,IY (t:=3) (ay rfl),λ_ _ _ e=>(by cases e;exact HB.out.size),HB.out.alloc HB.out.size _⟩
  ·rw[afc h2]at e0
   subst e0
   by_cases h22:K=2
   ·subst h22
    have hne:n=e:=by
     by_cases q:n=e
     ·exact q
     ·exact absurd ⟨rfl,q⟩ h2
    subst hne
    have hb:(n != n)=false:=by simp
    clear h2
    go_wp2_with fail
    go_ret2
    exact⟨_,_,rfl,IY (t:=3) (ay rfl),λ_ _ _ e=>(by cases e;exact HB.out.size),HB.out.alloc HB.out.size _⟩
   ·clear h2
    have k3:(K==3)=false:=by simp[h31]
    have k5:(K==5)=false:=by simp[h35]
    have k2:(K==2)=false:=by simp[h22]
    go_wp2_with fail
    go_ret2
    exact⟨_,_,rfl,IY (t:=3) (ay rfl),λ_ _ _ e=>(by cases e;exact HB.out.size),HB.out.alloc HB.out.size _⟩
theorem a6W (b:bU):(tgt b).length<=2:=by
 unfold tgt JX
 split
 ·decide
 ·split
  ·exact aeM 2
  ·show 1<=2;decide
theorem a9S {w:World}{v:Value}{D:FnD}(h:aZ w v D)(hc:check.iY D=0){b:bU}(hb:b∈D.bs):∀t∈tgt b,∃c:Nat,t=c/\c<D.bs.length:=λt ht=>by
 have hm:=(size.xX hc).2.1
 have hok:=check.yc hm b hb
 unfold made.okB at hok
 simp only[aeI]at hok
 have hj:okJ b.pre b.ops b.post=true:=hok.2
 have hbk:=h.blk b hb
 obtain⟨j,ops,hj1,hp,hq,ho⟩:=enc.VE hbk.rJ hbk.mZ hbk.okd hj
 unfold made.kT at hm
 simp only[aeI]at hm
 have hout:=aeV.1 hm.2.2.2 b hb
 unfold made.NC made.MH at hout
 simp only[aeI]at hout
 have h3:=hout.2.2.2
 clear hout hm hok
 unfold tgt at ht
 rw[hp]at ht h3
 have key:∀{n:Int},0<=n->n<(D.bs.length:Int)->∃c:Nat,n=c/\c<D.bs.length:=λ{n} h0 h1=>⟨n.toNat,by omega,by omega⟩
 cases j with
 |go n=>
  simp[enc.JmV.pre,enc.zO,ah,bD,JX]at ht h3
  subst ht
  exact key hj1.1.1 h3
 |br a n e=>
  obtain⟨q0,q1,q2,q3,q4,hq5⟩:∃q0 q1 q2 q3 q4,a.c=[q0,q1,q2,q3,q4]:=by cases a<;>exact⟨_,_,_,_,_,rfl⟩
  rw[enc.JmV.pre,hq5]at ht h3
  simp[ah,bD,JX]at ht h3
  have hn:=key hj1.1.1 h3.1
  by_cases e0:n=e
  ·rw[afm e0]at ht
   simp at ht
   rw[ht];exact hn
  ·rw[afc e0]at ht
   have he:=key hj1.2.1.1 (h3.2.resolve_left e0)
   simp at ht
   rcases ht with rfl|rfl
   ·exact hn
   ·exact he
 |ret=>simp[enc.JmV.pre,enc.zO,ah,bD,JX]at ht
 |abort=>simp[enc.JmV.pre,enc.zO,ah,bD,JX]at ht
 |call f q n=>
  simp[enc.JmV.pre,enc.zO,ah,bD,JX]at ht h3
  subst ht
  exact key hj1.2.1.1 h3
theorem a9J {w:World}{v:Value}{D:FnD}(h:aZ w v D)(hc:check.iY D=0)(hs:Small D){b i:Nat}{x:bU}(hx:D.bs[b]? =some x)(hi:i<=x.st.length):
  Calls Tryz.prog 14 #[v,.agg #[.int .i64 (b:Nat),.int .i64 (i:Nat)]] w (bld.Ans w (.tuple #[.int .i64 ((aQ D.bs b+i:Nat):Int),.int .i64 0])):=by
 have hb:=(aeU.1 hx).1
 have h24:=hs.s x (aeY hx)
 have hl:i<=iV D.bs b:=by rw[BP hx];exact hi
 have HCK:=Lib.hid (λ(W:World) (hW:Below w.heap.size w W)=>a6w (h.frz hW.block) hc hs.n hx hi (by omega))
 have HAL:=Lib.hid (λ(W:World) (hW:Below w.heap.size w W)=>RN (h.frz hW.block) hs)
 have HBN:=Lib.hid (λ(W:World) (A:Option Addr) (c:Nat) (hr:dR W A 2 (FK D))=>adr (c:=c) hr hs hb hl)
 obtain⟨A1,c1,q1,A2,c2,q2⟩:=lK h
 rw[h.eq,q1,q2]at HCK HAL
 rw[h.eq,q1,q2]
 clear h hc hx hi hs hb h24 hl q1 q2
 generalize hT:aQ D.bs b+i=T at *
 generalize D.bs.length=n at HCK HAL |-
 generalize D.ls.length=m at *
 generalize D.p=p at *
 generalize D.u=u at *
 have b0:Below w.heap.size w ((w.alloc (.cells #[.int .i64 p,.bool u,.slice A1 m c1,.slice A2 n c2] 40)).alloc (.cells #[.int .i64 (b:Nat),.int .i64 (i:Nat)] 49)):=((ahE _ w).alloc (aeM _) _).alloc (by simp) _
 have P0:((w.alloc (.cells #[.int .i64 p,.bool u,.slice A1 m c1,.slice A2 n c2] 40)).alloc (.cells #[.int .i64 (b:Nat),.int .i64 (i:Nat)] 49)).heap[w.heap.size]? =some (.cells #[.int .i64 p,.bool u,.slice A1 m c1,.slice A2 n c2] 40 (0,0)):=dA (ay rfl)
 have P1:((w.alloc (.cells #[.int .i64 p,.bool u,.slice A1 m c1,.slice A2 n c2] 40)).alloc (.cells #[.int .i64 (b:Nat),.int .i64 (i:Nat)] 49)).heap[w.heap.size+1]? =some (.cells #[.int .i64 (b:Nat),.int .i64 (i:Nat)] 49 (0,0)):=ay (by simp)
 go_enter Tryz.func14,Tryz.ntmps14
 go_upto_region 4 with(go_at_call 50;refine(HCK.out _ b0).mono ?_;rintro e w1 ⟨rfl,b1⟩)
 have R0:=(b1.block _ (aeN.1 P0).1).trans P0
 have R1:=(b1.block _ (aeN.1 P1).1).trans P1
 have HB:=Lib.hid (b0.trans (b1.mono b0.size))
 have g0:w.heap.size<w1.heap.size:=(aeN.1 R0).1
 have g1:w.heap.size+1<w1.heap.size:=(aeN.1 R1).1
 have c0:w1.drew.cell? ⟨w.heap.size,0,none⟩=some (.int .i64 p):=ahF w1 w.heap.size 0 _ _ (0,0) R0
 have c1':w1.drew.cell? ⟨w.heap.size,1,none⟩=some (.bool u):=ahF w1 w.heap.size 1 _ _ (0,0) R0
 have c2':w1.drew.cell? ⟨w.heap.size,2,none⟩=some (.slice A1 m c1):=ahF w1 w.heap.size 2 _ _ (0,0) R0
 have c3:w1.drew.cell? ⟨w.heap.size,3,none⟩=some (.slice A2 n c2):=ahF w1 w.heap.size 3 _ _ (0,0) R0
 have e0:w1.drew.cell? ⟨w.heap.size+1,0,none⟩=some (.int .i64 (b:Nat)):=ahF w1 (w.heap.size+1) 0 _ _ (0,0) R1
 have e1:w1.drew.cell? ⟨w.heap.size+1,1,none⟩=some (.int .i64 (i:Nat)):=ahF w1 (w.heap.size+1) 1 _ _ (0,0) R1
 clear P0 P1 R0 R1 b0 b1
 refine bH [⟨w.heap.size,0,none⟩,⟨w.heap.size,1,none⟩,⟨w.heap.size,2,none⟩,⟨w.heap.size,3,none⟩,⟨w.heap.size+1,0,none⟩,⟨w.heap.size+1,1,none⟩] [(0,true),(2,true),(1,false),(3,false),(4,true),(5,true),(6,true),(7,true),(8,true)] (by kernel_rfl) (by kernel_rfl) (by decide) (by kernel_rfl) (λ_ _ _ _ _ h=>h) ?_
 iterate 2 (refine SeqC.take (v:=?_) rfl (by rfl) (λW hW=>?_) ?_;rotate_left;(focus(have z0:=hW.get (by simp) c0;have z1:=hW.get (by simp) c1';have z2:=hW.get (by simp) c2';have z3:=hW.get (by simp) c3;have z4:=hW.get (by simp) e0;have z5:=hW.get (by simp) e1;go_simp;with_reducible rfl));simp only[Act.put,aeJ,aeP,aeO])
 refine SeqC.call (f:=?_) (args:=?_) rfl (by rfl) ?_ ?_
 rotate_left 2
 ·(go_simp;first |with_reducible rfl|(refine⟨?_,?_⟩<;>with_reducible rfl))
 refine(HAL.out _ HB.out.drew).mono ?_
 rintro e w2 ⟨A,cA,rfl,hrows,hd2⟩
 refine⟨_,rfl,Cells.nM hd2 (by simp;exact⟨g0,g1⟩),?_⟩
 simp only[Act.put,aeJ,aeP,aeO]
 refine SeqC.call (f:=?_) (args:=?_) rfl (by rfl) ?_ ?_
 rotate_left 2
 ·(go_simp;first |with_reducible rfl|(refine⟨?_,?_⟩<;>with_reducible rfl))
 refine(HBN.out w2 A cA hrows).mono ?_
 rintro e w3 ⟨rfl,b3⟩
 refine⟨_,rfl,Cells.nM b3 (by have:=hd2.size;simp at this |-;omega),?_⟩
 simp only[Act.put,aeJ,aeP,aeO]
 have HB3:=Lib.hid ((HB.out.drew.trans (hd2.mono HB.out.drew.size)).trans (b3.mono (HB.out.drew.trans (hd2.mono HB.out.drew.size)).size))
 clear c0 c1' c2' c3 e0 e1 hd2 b3 hrows
 iterate 5 (refine SeqC.take (v:=?_) rfl (by rfl) (λW hW=>?_) ?_;rotate_left;(focus(go_simp;with_reducible rfl));simp only[Act.put,aeJ,aeP,aeO])
 refine SeqC.done ?_
 go_wp2_with fail
 go_ret2
 exact⟨rfl,HB3.out⟩
theorem W9 {w:World}{v:Value}{D:FnD}(h:aZ w v D)(hc:check.iY D=0):Small D:=by
 have hs:=size.sm h hc
 exact⟨hs.b,λb hb=>(hs.s b hb).1⟩
theorem a8D {D:FnD}(hc:check.iY D=0):0<D.bs.length:=by
 have hm:=(size.xX hc).2.1
 unfold made.kT at hm
 simp only[aeI,af6]at hm
 exact hm.2.1
theorem a5s {w:World}{v:Value}{D:FnD}(h:aZ w v D)(hc:check.iY D=0):Calls Tryz.prog 13 #[v] w (V9 D w):=
 a6Z h (W9 h hc) (λw1 hb=>by have:=check.uT (h.frz hb.block);rw[hc]at this;exact this) (a8D hc) tgt
  (λx hx W hW=>aao (⟨(h.blk x hx).sts.frz hW.block,(h.blk x hx).skd,(h.blk x hx).rJ,(h.blk x hx).opl.frz hW.block,(h.blk x hx).okd,(h.blk x hx).mZ⟩) (by
   have hok:=check.yc (size.xX hc).2.1 x hx
   unfold made.okB at hok
   simp only[aeI]at hok
   exact hok.2))
  λx hx=>⟨a6W x,a9S h hc hx⟩
theorem a7q {Ds:List FnD}(h:jX Ds=0):∀D∈Ds,∀t∈callsF.lits (callsF.vec D),∃c:Nat,t=c/\c<Ds.length:=λD hD t ht=>by
 unfold callsF.lits at ht
 obtain⟨j,hj,rfl⟩:=afo.1 ht
 obtain⟨hj8,hv⟩:=ahe.1 hj
 have hj8:=afs.1 hj8
 refine⟨j,rfl,?_⟩
 have hc:callsF.called D j=true:=by
  rw[<-hv]
  have h8:j=0\/j=1\/j=2\/j=3\/j=4\/j=5\/j=6\/j=7:=by omega
  rcases h8 with rfl|rfl|rfl|rfl|rfl|rfl|rfl|rfl<;>rfl
 obtain⟨b,hb,hcb⟩:=agk.1 hc
 unfold callsF.jP at hcb
 simp only[aeI,af6]at hcb
 have hcp:ou Ds=true:=by
  unfold jX at h
  split at h
  ·cases h
  ·split at h
   ·cases h
   ·split at h
    ·split at h
     ·rename_i hq
      simp only[aeI]at hq
      exact hq.2
     ·cases h
    ·rename_i hne;exact absurd h hne
 have:=aeV.1 (aeV.1 hcp D hD) b hb
 unfold jP at this
 rw[hcb.1,hcb.2]at this
 simp only[decide_true,Bool.not_true,Bool.false_or,aeI,af6]at this
 omega
