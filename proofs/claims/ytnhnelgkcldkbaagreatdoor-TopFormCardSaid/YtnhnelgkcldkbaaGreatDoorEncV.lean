/- encode's writer: numbers behind what it holds. encode: places, operands, rvalues, statements, jumps behind what a writer holds. -/
import Derived.Test.YtnhnelgkcldkbaaGreatDoorNumSign
set_option linter.all false
set_option maxHeartbeats 8000000
set_option maxRecDepth 100000
namespace Go.Proofs.YtnhnelgkcldkbaaGreatDoor
namespace enc
open Go.RowKit Am loan bld
abbrev tU:TypeId:=5
abbrev tW:TypeId:=118
abbrev tI:TypeId:=3
structure Wr (b:Nat)(acc:List Int)(W:World):Prop where
 x:∃v,W.heap[b]? =some (.cells #[v] tW (0,0))/\W.ownsRow (b+1) tU 1 v acc.length (acc.map (Value.int .u8))
theorem Wr.lt {b:Nat}{acc:List Int}{W:World}(h:Wr b acc W):b<W.heap.size:=by
 obtain⟨v,hb,_⟩:=h.x
 exact(aeN.1 hb).1
theorem Wr.keep {b:Nat}{acc:List Int}{W W':World}(h:Wr b acc W)(hk:∀k,k<W.heap.size->W'.heap[k]? =W.heap[k]?):Wr b acc W':=by
 obtain⟨v,hb,ho⟩:=h.x
 exact⟨v,(hk _ h.lt).trans hb,uX ho λk hm=>hk k (CU ho k hm).2⟩
theorem Wr.below {b:Nat}{acc:List Int}{W W':World}(h:Wr b acc W)(hb:Below W.heap.size W W'):Wr b acc W':=h.keep hb.block
def Safe (W:World)(b g:Nat):Prop:=g<b\/(g≠b/\∃c t f,W.heap[g]? =some (.cells c t f)/\t≠tU)
theorem Safe.wrote {W W':World}{b g:Nat}(h:Safe W b g)(hw:Wrote tU b W W'):Safe W' b g:=by
 rcases h with h|⟨h1,c,t,f,h2,h3⟩
 ·exact .inl h
 ·exact .inr ⟨h1,c,t,f,hw.block h2 h1 h3,h3⟩
theorem Safe.block {W W':World}{b g:Nat}(h:Safe W b g)(hw:Wrote tU b W W'):W'.heap[g]? =W.heap[g]? :=by
 rcases h with h|⟨h1,c,t,f,h2,h3⟩
 ·exact hw.bel.block g h
 ·rw[h2];exact hw.block h2 h1 h3
def y8 (W:World)(b:Nat)(A:Option Addr)(sz:Nat)(els:List (List Value)):Prop:=∀i el,els[i]? =some el->∃g o,A=some ⟨g,o,none⟩/\g<W.heap.size/\Safe W b g/\W.rangeAt g (o+i*sz) el
theorem y8.wrote {W W':World}{b:Nat}{A:Option Addr}{sz:Nat}{els:List (List Value)}(h:y8 W b A sz els)(hw:Wrote tU b W W'):y8 W' b A sz els:=λi el hi=>by
 obtain⟨g,o,e,hg,hs,hr⟩:=h i el hi
 refine⟨g,o,e,afe hg hw.bel.size,hs.wrote hw,λj u hj=>?_⟩
 exact(ahI (a:=⟨g,o+i*sz+j,none⟩) (hs.block hw)).trans (hr j u hj)
theorem y8.of_below {w W:World}{b:Nat}{A:Option Addr}{sz:Nat}{els:List (List Value)}(h:dR w A sz els)(hb:w.heap.size<=b)(hw:Below w.heap.size w W):y8 W b A sz els:=λi el hi=>by
 obtain⟨g,o,e,hg,hr⟩:=h i el hi
 exact⟨g,o,e,afe hg hw.size,.inl (by omega),λj u hj=>(hw.cell (p:=⟨g,o+i*sz+j,none⟩) hg).trans (hr j u hj)⟩
theorem y8.new {W:World}{b g sz:Nat}{t:TypeId}{els:List (List Value)}(hb:g≠b)(ht:t≠tU)(hl:∀x∈els,x.length=sz)(h:W.heap[g]? =some (.cells els.flatten.toArray t (0,0))):y8 W b (some ⟨g,0,none⟩) sz els:=λi el hi=>
 ⟨g,0,rfl,(aeN.1 h).1,.inr ⟨hb,_,t,_,h,ht⟩,λj u hj=>by
  rw[afK,ahF W g _ _ t (0,0) h,agU]
  exact flat_get hl hi hj⟩
theorem ZK {W W':World}{b:Nat}{r:Option Nat}(hg:W.grownBy W' r)(hr:∀k,r=some k->∃c f,W.heap[k]? =some (.cells c tU f)):Lib.OthersKept tU (some b) W W':=λk o hk _ ht=>ru hg hk λe=>by
 obtain⟨c,f,hc⟩:=hr k e.symm
 rw[hk]at hc
 exact ht c f (afE hc)
theorem a7s {W:World}{b:Nat}(u:Value):Lib.OthersKept tU (some b) W (W.setCell ⟨b,0,none⟩ u):=λk o hk hb _=>(ahM W ⟨b,0,none⟩ k u (λe=>hb (by rw[e]))).trans hk
theorem Wr.put {b:Nat}{acc zs:List Int}{W W2:World}{v v2:Value}(hb:W.heap[b]? =some (.cells #[v] tW (0,0)))(ho:W.ownsRow (b+1) tU 1 v acc.length (acc.map (Value.int .u8)))(hg:W.grownBy W2 v.ownBlock)(h2:W2.ownsRow (b+1) tU 1 v2 (acc.length+zs.length) (acc.map (Value.int .u8)++zs.map (Value.int .u8))):Wr b (acc++zs) (W2.setCell ⟨b,0,none⟩ v2)/\Wrote tU b W (W2.setCell ⟨b,0,none⟩ v2):=by
 have hbv:v.ownBlock≠some b:=λe=>by have:=(ho.lt b e).1;omega
 have hb2:W2.heap[b]? =some (.cells #[v] tW (0,0)):=ru hg hb (λe=>hbv e.symm)
 have hob:∀k,v.ownBlock=some k->b+1<=k:=λk hk=>(ho.lt k hk).1
 refine⟨⟨v2,heap_setCell_same _ _ _ _ _ _ hb2,?_⟩,⟨?_,?_⟩⟩
 ·rw[aeL,afX]
  exact uX h2 λk hk=>ahM _ _ _ _ (by have:=(CU h2 k hk).1;show k≠b;omega)
 ·exact(((ahE b W).grown hg (afk (aeN.1 hb).1) (λk hk=>by have:=hob k hk;omega))).setCell (p:=⟨b,0,none⟩) (aeM b) v2
 ·refine(ZK hg λk hk=>?_).trans (a7s v2)
  rcases ho.2 with⟨rfl,_⟩|⟨g,cap,cur,rfl,_,hc,_⟩
  ·cases hk
  ·have e:g=k:=by simpa[Value.ownBlock]using hk
   exact⟨cur,(0,0),e▸hc⟩
theorem qV (zs:List Int):(zs.map λc=>[Value.int .u8 c]).flatten=zs.map (Value.int .u8):=by
 induction zs with
 |nil=>rfl
 |cons c zs ih=>rw[afr,afP,afr,ih];rfl
theorem wrap_u64 {n:Int}(h0:0<=n)(h1:n<=9223372036854775807):IntKind.u64.wrap n=n:=by
 rw[ahR]
 omega
theorem oD {W:World}{base:Nat}{v:Value}{zs:List Int}(h:W.ownsRow base tU 1 v zs.length (zs.map (Value.int .u8))):bT W v 1 (zs.map λc=>[Value.int .u8 c]):=by
 refine bT.Em (base:=base) (e:=tU) (els:=zs.map λc=>[Value.int .u8 c]) ?_ (λx hx=>by obtain⟨c,_,rfl⟩:=afo.1 hx;rfl)
 rw[qV,af4]
 exact h
theorem a1e {W:World}{b:Nat}{acc:List Int}(hW:Wr b acc W){A:Option Addr}{c:Nat}{ns:List Int}(hr:y8 W b A 1 (ns.map λn=>[.int .i64 n]))(hn:∀n∈ns,0<=n/\n<=9223372036854775807)(hns:ns.length<=100)(hl:acc.length<=900000):
  Calls Tryz.prog 53 #[.pointer (some ⟨b,0,none⟩),.slice A ns.length c] W λe W'=>e=.returned (.tuple #[])/\Wr b (acc++ns.flatMap Num.put) W'/\Wrote tU b W W':=by
 have HR:=Lib.hid hr
 have HN:=Lib.hid hn
 have HW:=Lib.hid hW
 clear hr hn hW
 go_enter Tryz.func53,Tryz.ntmps53
 go_wp2_with fail
 go_loopg [8] ns.length (λg s8 wr=>∃i:Nat,s8=.int .i64 i/\i<=ns.length/\g=ns.length-i/\Wr b (acc++(ns.take i).flatMap Num.put) wr/\Wrote tU b W wr)
 case atStart=>exact⟨0,rfl,afb _,rfl,by simpa using HW.out,Wrote.refl _ _ _⟩
 case round=>
  obtain⟨i,rfl,hi,rfl,hwr,hwt⟩:=hrel
  have h0I:(0:Int)<=(i:Int):=afa _
  have HWR:=Lib.hid hwr
  have HWT:=Lib.hid hwt
  clear hwr hwt
  rcases afp i ns.length with hlt|hge
  ·have hltI:(i:Int)<(ns.length:Int):=by omega
   obtain⟨n,hx⟩:∃n,ns[i]? =some n:=⟨_,aeK hlt⟩
   obtain⟨g,o,eA,hg,hs,hrng⟩:=(HR.out.wrote HWT.out) i [.int .i64 n] (by rw[aeT,hx];rfl)
   subst eA
   have c0:=hrng 0 _ rfl
   simp only[agm,afS]at c0
   obtain⟨n0,n1⟩:=HN.out n (aeY hx)
   have HX:=Lib.hid hx
   clear hx hrng hs
   go_upto_region 3 with fail
   clear c0
   have hln:((ns.take i).flatMap Num.put).length<=1100:=by
    have h2:∀l:List Int,(l.flatMap Num.put).length<=11*l.length:=λl=>by
     induction l with
     |nil=>simp
     |cons x l ih=>have:=(Num.CV 10 x).2;rw[ag0,aeL,afi];unfold Num.put at *;omega
    have:=h2 (ns.take i)
    rw[afu]at this
    omega
   have hwp:IntKind.u64.wrap n=n:=wrap_u64 n0 n1
   have hp0:=Num.put_pos n
   have hp1:=Num.UZ n (by omega)
   obtain⟨v,hb,ho⟩:=HWR.out.x
   have HPC:=Lib.hid (λ(W1:World)=>put_any n W1 n0 (by omega))
   have HTK:=Lib.hid (show(ns.take (i+1)).flatMap Num.put=(ns.take i).flatMap Num.put++Num.put n from by rw[ag6,HX.out,ah2];simp)
   generalize hZ:Num.put n=zs at *
   have HZ:=Lib.hid hZ
   clear hZ
   have hal:(acc++(ns.take i).flatMap Num.put).length<=901100:=by rw[aeL];omega
   generalize hAC:acc++(ns.take i).flatMap Num.put=ac at *
   have HAC:=Lib.hid hAC
   clear hAC
   have HL:=Lib.hid hal
   clear hal hln hl
   refine F7 [] (by kernel_rfl) ?_
   have hb:wr.drew.heap[b]? =some (.cells #[v] tW (0,0)):=hb
   have ho:wr.drew.ownsRow (b+1) tU 1 v ac.length (ac.map (Value.int .u8)):=ho
   have HD:=Lib.hid (show Wrote tU b W wr.drew from⟨HWT.out.bel.drew,HWT.out.oth.trans (λk o hk _ _=>hk)⟩)
   generalize wr.drew=wd at *
   have HB:=Lib.hid hb
   have HO:=Lib.hid ho
   have hlb:b<wd.heap.size:=(aeN.1 hb).1
   clear ho hb
   refine iK.take (i:=0) (v:=?_) (by kernel_rfl) rfl (by kernel_rfl) (by kernel_rfl) (λ_ _ _ _ _ h=>h) (by rfl) (λW hW=>?_) ?_;rotate_left;(focus(go_simp;with_reducible rfl));simp only[Act.put,aeJ,aeP,aeO]
   refine iK.take (i:=1) (v:=?_) (by kernel_rfl) rfl (by kernel_rfl) (by kernel_rfl) (λ_ _ _ _ _ h=>h) (by rfl) (λW hW=>?_) ?_;rotate_left;(focus(go_simp;with_reducible rfl));simp only[Act.put,aeJ,aeP,aeO]
   refine iK.take (i:=2) (v:=?_) (by kernel_rfl) rfl (by kernel_rfl) (by kernel_rfl) (λ_ _ _ _ _ h=>h) (by rfl) (λW hW=>?_) ?_;rotate_left;(focus(go_simp;with_reducible rfl));simp only[Act.put,aeJ,aeP,aeO]
   refine iK.take (i:=3) (v:=?_) (by kernel_rfl) rfl (by kernel_rfl) (by kernel_rfl) (λ_ _ _ _ _ h=>h) (by rfl) (λW hW=>?_) ?_;rotate_left;(focus(go_simp;with_reducible rfl));simp only[Act.put,aeJ,aeP,aeO]
   refine iK.take (i:=5) (v:=?_) (by kernel_rfl) rfl (by kernel_rfl) (by kernel_rfl) (λ_ _ _ _ _ h=>h) (by rfl) (λW hW=>?_) ?_;rotate_left;(focus(go_simp;with_reducible rfl));simp only[Act.put,aeJ,aeP,aeO]
   refine iK.take (i:=6) (v:=?_) (by kernel_rfl) rfl (by kernel_rfl) (by kernel_rfl) (λ_ _ _ _ _ h=>h) (by rfl) (λW hW=>?_) ?_;rotate_left;(focus(go_simp;with_reducible rfl));simp only[Act.put,aeJ,aeP,aeO]
   refine iK.all (rs:=[4,7]) (by kernel_rfl) rfl ?_
   intro j hj
   simp only[aeQ,aeZ,afj]at hj
   rcases hj with rfl|rfl
   ·have d0:wd.cell? ⟨b,0,none⟩=some v:=by rw[Lib.cell_of_heap HB.out];rfl
    refine cVal (v:=v) (w':=wd) rfl (by rfl) (by go_simp;try with_reducible rfl) (Cells.refl _ _) ?_
    simp only[Act.put,aeJ,aeP,aeO]
    clear d0
    refine iK.one (i:=7) (by kernel_rfl) ?_
    refine Xk (f:=?_) (args:=?_) rfl (by rfl) ?_ ?_
    rotate_left 2
    ·(go_simp;first |with_reducible rfl|(refine⟨?_,?_⟩<;>with_reducible rfl))
    refine(HPC.out _).mono ?_
    rintro e w1 ⟨s1,rfl,own1,b1⟩
    refine⟨_,rfl,(λp hp=>by cases hp),?_⟩
    simp only[Act.put,aeJ,aeP,aeO]
    have HDX:=Lib.hid (HD.out.trans (Wrote.of_below b1 (afk hlb)))
    have hbX:=(b1.block _ hlb).trans HB.out
    have hoX:=wC HO.out b1
    have hlb1:b<w1.heap.size:=afe hlb b1.size
    have HC:=Lib.hid own1
    clear own1 b1
    refine iK.one (i:=8) (by kernel_rfl) ?_
    refine a7H rfl (by rfl) _ _ (b+1) 50 tU (.int .u8 0) 1 1 rfl Tryz.underlying50 GI rfl (by decide) rfl hoX (by rfl) (oD HC.out) (λel he u hu=>by obtain⟨q,_,rfl⟩:=afo.1 he;rw[aeR.1 hu];rfl) (by rw[af4];have:=HL.out;omega) (by decide) (by omega) (by rw[af4];omega) (λp hp=>by cases hp) (λgg cc w2 hown2 hg2=>?_)
    simp only[Act.put,aeJ,aeP,aeO]
    rw[qV,af4]at hown2
    rw[af4]
    have HP:=Lib.hid (Wr.put hbX hoX hg2 hown2)
    have hbv:v.ownBlock≠some b:=λe=>by have:=(hoX.lt b e).1;omega
    have hb2:w2.heap[b]? =some (.cells #[v] tW (0,0)):=ru hg2 hbX (λe=>hbv e.symm)
    have d2:w2.cell? ⟨b,0,none⟩=some v:=by rw[Lib.cell_of_heap hb2];rfl
    have f2:w2.frozen? ⟨b,0,none⟩=false:=Lib.frozen_of_heap hb2 0
    clear hown2 hg2 hbX hoX hbv hb2
    refine iK.take (i:=9) (v:=?_) (by kernel_rfl) rfl (by kernel_rfl) (by kernel_rfl) (λ_ _ _ _ _ h=>h) (by rfl) (λW hW=>?_) ?_;rotate_left;(focus(go_simp;with_reducible rfl));simp only[Act.put,aeJ,aeP,aeO]
    refine iK.take (i:=10) (v:=?_) (by kernel_rfl) rfl (by kernel_rfl) (by kernel_rfl) (λ_ _ _ _ _ h=>h) (by rfl) (λW hW=>?_) ?_;rotate_left;(focus(go_simp;with_reducible rfl));simp only[Act.put,aeJ,aeP,aeO]
    refine iK.one (i:=11) (by kernel_rfl) ?_
    refine Xf (w':=w2.setCell ⟨b,0,none⟩ (.slice (some ⟨gg,0,none⟩) (ac.length+zs.length) cc)) rfl (by rfl) (by go_simp;try with_reducible rfl) (λp hp=>by cases hp) ?_
    simp only[Act.put]
    refine iK.done (by kernel_rfl) ?_
    clear d2 f2
    have HWF:=Lib.hid (HDX.out.trans HP.out.2)
    have HWG:=Lib.hid HP.out.1
    generalize w2.setCell ⟨b,0,none⟩ (.slice (some ⟨gg,0,none⟩) (ac.length+zs.length) cc)=wf at *
    go_wp2_with fail
    go_roundg (ns.length-(i+1))
    case measure=>omega
    case rel=>exact⟨i+1,by simp,by omega,rfl,by rw[HTK.out,<-af9,HAC.out];exact HWG.out,HWF.out⟩
   ·refine Xk (f:=?_) (args:=?_) rfl (by rfl) ?_ ?_
    rotate_left 2
    ·(go_simp;first |with_reducible rfl|(refine⟨?_,?_⟩<;>with_reducible rfl))
    refine(HPC.out _).mono ?_
    rintro e w1 ⟨s1,rfl,own1,b1⟩
    refine⟨_,rfl,(λp hp=>by cases hp),?_⟩
    simp only[Act.put,aeJ,aeP,aeO]
    have HDX:=Lib.hid (HD.out.trans (Wrote.of_below b1 (afk hlb)))
    have hbX:=(b1.block _ hlb).trans HB.out
    have hoX:=wC HO.out b1
    have hlb1:b<w1.heap.size:=afe hlb b1.size
    have HC:=Lib.hid own1
    clear own1 b1
    have d0:w1.cell? ⟨b,0,none⟩=some v:=by rw[Lib.cell_of_heap hbX];rfl
    refine iK.one (i:=4) (by kernel_rfl) ?_
    refine cVal (v:=v) (w':=w1) rfl (by rfl) (by go_simp;try with_reducible rfl) (Cells.refl _ _) ?_
    simp only[Act.put,aeJ,aeP,aeO]
    clear d0
    refine iK.one (i:=8) (by kernel_rfl) ?_
    refine a7H rfl (by rfl) _ _ (b+1) 50 tU (.int .u8 0) 1 1 rfl Tryz.underlying50 GI rfl (by decide) rfl hoX (by rfl) (oD HC.out) (λel he u hu=>by obtain⟨q,_,rfl⟩:=afo.1 he;rw[aeR.1 hu];rfl) (by rw[af4];have:=HL.out;omega) (by decide) (by omega) (by rw[af4];omega) (λp hp=>by cases hp) (λgg cc w2 hown2 hg2=>?_)
    simp only[Act.put,aeJ,aeP,aeO]
    rw[qV,af4]at hown2
    rw[af4]
    have HP:=Lib.hid (Wr.put hbX hoX hg2 hown2)
    have hbv:v.ownBlock≠some b:=λe=>by have:=(hoX.lt b e).1;omega
    have hb2:w2.heap[b]? =some (.cells #[v] tW (0,0)):=ru hg2 hbX (λe=>hbv e.symm)
    have d2:w2.cell? ⟨b,0,none⟩=some v:=by rw[Lib.cell_of_heap hb2];rfl
    have f2:w2.frozen? ⟨b,0,none⟩=false:=Lib.frozen_of_heap hb2 0
    clear hown2 hg2 hbX hoX hbv hb2
    refine iK.take (i:=9) (v:=?_) (by kernel_rfl) rfl (by kernel_rfl) (by kernel_rfl) (λ_ _ _ _ _ h=>h) (by rfl) (λW hW=>?_) ?_;rotate_left;(focus(go_simp;with_reducible rfl));simp only[Act.put,aeJ,aeP,aeO]
    refine iK.take (i:=10) (v:=?_) (by kernel_rfl) rfl (by kernel_rfl) (by kernel_rfl) (λ_ _ _ _ _ h=>h) (by rfl) (λW hW=>?_) ?_;rotate_left;(focus(go_simp;with_reducible rfl));simp only[Act.put,aeJ,aeP,aeO]
    refine iK.one (i:=11) (by kernel_rfl) ?_
    refine Xf (w':=w2.setCell ⟨b,0,none⟩ (.slice (some ⟨gg,0,none⟩) (ac.length+zs.length) cc)) rfl (by rfl) (by go_simp;try with_reducible rfl) (λp hp=>by cases hp) ?_
    simp only[Act.put]
    refine iK.done (by kernel_rfl) ?_
    clear d2 f2
    have HWF:=Lib.hid (HDX.out.trans HP.out.2)
    have HWG:=Lib.hid HP.out.1
    generalize w2.setCell ⟨b,0,none⟩ (.slice (some ⟨gg,0,none⟩) (ac.length+zs.length) cc)=wf at *
    go_wp2_with fail
    go_roundg (ns.length-(i+1))
    case measure=>omega
    case rel=>exact⟨i+1,by simp,by omega,rfl,by rw[HTK.out,<-af9,HAC.out];exact HWG.out,HWF.out⟩
  ·obtain rfl:i=ns.length:=by omega
   rw[afq]at HWR
   go_wp2_with fail
   go_end0
   exact⟨rfl,HWR.out,HWT.out⟩
abbrev tPl:TypeId:=57
abbrev tOp:TypeId:=59
abbrev tRv:TypeId:=61
abbrev tSt:TypeId:=63
abbrev tJm:TypeId:=81
theorem rvR:(Tryz.prog.info? 61).map (·.size)=some 16:=by kernel_rfl
theorem stR:(Tryz.prog.info? 63).map (·.size)=some 26:=by kernel_rfl
def FD (b:Nat)(acc:List Int)(W:World)(e:Ending)(W':World):Prop:=e=.returned (.tuple #[])/\Wr b acc W'/\Wrote tU b W W'
theorem zn {W:World}{b G:Nat}{acc:List Int}{n:Int}(hW:Wr b acc W)(hG:W.heap[G]? =some (.cells #[.int .i64 n] tI (0,0)))(hb:G≠b)(h0:0<=n)(h1:n<=9223372036854775807)(hl:acc.length<=900000):
  Calls Tryz.prog 53 #[.pointer (some ⟨b,0,none⟩),.slice (some ⟨G,0,none⟩) 1 1] W (FD b (acc++Num.put n) W):=by
 have h:=a1e (ns:=[n]) (c:=1) hW (y8.new (sz:=1) (els:=[[.int .i64 n]]) hb (by decide) (by intro x hx;rw[aeR.1 hx];rfl) hG) (by intro x hx;rw[aeR.1 hx];exact⟨h0,h1⟩) (show 1<=100 by decide) hl
 rw[ag0,agI,aft]at h
 exact h
theorem adx {W:World}{b G:Nat}{acc:List Int}{n m:Int}(hW:Wr b acc W)(hG:W.heap[G]? =some (.cells #[.int .i64 n,.int .i64 m] tI (0,0)))(hb:G≠b)(h0:0<=n)(h1:n<=9223372036854775807)(k0:0<=m)(k1:m<=9223372036854775807)(hl:acc.length<=900000):
  Calls Tryz.prog 53 #[.pointer (some ⟨b,0,none⟩),.slice (some ⟨G,0,none⟩) 2 2] W (FD b (acc++(Num.put n++Num.put m)) W):=by
 have h:=a1e (ns:=[n,m]) (c:=2) hW (y8.new (sz:=1) (els:=[[.int .i64 n],[.int .i64 m]]) hb (by decide) (by intro x hx;simp only[aeQ,aeZ,afj]at hx;rcases hx with rfl|rfl<;>rfl) hG) (by intro x hx;simp only[aeQ,aeZ,afj]at hx;rcases hx with rfl|rfl<;>first |exact⟨h0,h1⟩|exact⟨k0,k1⟩) (show 2<=100 by decide) hl
 rw[ag0,ag0,agI,aft]at h
 exact h
theorem aex {W:World}{b G:Nat}{acc:List Int}{n m q:Int}(hW:Wr b acc W)(hG:W.heap[G]? =some (.cells #[.int .i64 n,.int .i64 m,.int .i64 q] tI (0,0)))(hb:G≠b)(h0:0<=n)(h1:n<=9223372036854775807)(k0:0<=m)(k1:m<=9223372036854775807)(q0:0<=q)(q1:q<=9223372036854775807)(hl:acc.length<=900000):
  Calls Tryz.prog 53 #[.pointer (some ⟨b,0,none⟩),.slice (some ⟨G,0,none⟩) 3 3] W (FD b (acc++(Num.put n++(Num.put m++Num.put q))) W):=by
 have h:=a1e (ns:=[n,m,q]) (c:=3) hW (y8.new (sz:=1) (els:=[[.int .i64 n],[.int .i64 m],[.int .i64 q]]) hb (by decide) (by intro x hx;simp only[aeQ,aeZ,afj]at hx;rcases hx with rfl|rfl|rfl<;>rfl) hG) (by intro x hx;simp only[aeQ,aeZ,afj]at hx;rcases hx with rfl|rfl|rfl<;>first |exact⟨h0,h1⟩|exact⟨k0,k1⟩|exact⟨q0,q1⟩) (show 3<=100 by decide) hl
 rw[ag0,ag0,ag0,agI,aft]at h
 exact h
theorem Wr.alloc {b:Nat}{acc:List Int}{W:World}(h:Wr b acc W)(o:Obj):Wr b acc (W.alloc o):=h.below ((ahE _ _).alloc (aeM _) _)
theorem dO {b:Nat}{W W':World}(h:Wrote tU b W W')(hb:b<=W'.heap.size)(o:Obj):Wrote tU b W (W'.alloc o):=h.trans (Wrote.of_below ((ahE _ _).alloc (aeM _) _) hb)
theorem EH {W:World}{H:Nat}{cs X ys Z:List Value}{t:TypeId}(h:W.heap[H]? =some (.cells cs.toArray t (0,0)))(e:cs=X++(ys++Z)):W.rangeAt H X.length ys:=λj u hj=>by
 rw[ahF W H _ _ t (0,0) h,agU,e,af7 (by omega),Nat.add_sub_cancel_left,af5 (aeU.1 hj).1]
 exact hj
theorem jg {W W':World}{b k:Nat}{cs:Array Value}{t:TypeId}(hk:W.heap[k]? =some (.cells cs t (0,0)))(hw:Wrote tU b W W')(hb:k≠b)(ht:t≠tU):W'.heap[k]? =some (.cells cs t (0,0)):=hw.block hk hb ht
theorem Rt {W:World}{b:Nat}{acc:List Int}(hW:Wr b acc W){p:PlV}(hp:p.ok)(hl:acc.length<=800000):Calls Tryz.prog 166 #[.pointer (some ⟨b,0,none⟩),.agg p.c.toArray] W (FD b (acc++p.b) W):=by
 obtain⟨l,d,f⟩:=p
 obtain⟨h0,h1,h2,h3⟩:=hp
 simp only at h0 h1 h2 h3
 have hlt:=hW.lt
 have HW:=Lib.hid hW
 clear hW
 unfold PlV.b PlV.n PlV.c
 cases d
 all_goals(
  go_enter Tryz.func166,Tryz.ntmps166
  go_wp2_with (go_at_call 53;refine(zn ((HW.out.alloc _).alloc _) (ay (by simp)) (by omega) (by omega) (by omega) (by omega)).mono ?_;rintro e w1 ⟨rfl,wr1,wt1⟩)
  go_end0
  exact⟨rfl,by simpa using wr1,(dO (dO (Wrote.refl _ _ _) (afk hlt) _) (by simp;omega) _).trans wt1⟩)
theorem own_ne {W:World}{base:Nat}{e t:TypeId}{size n H:Nat}{v:Value}{xs:List Value}{cs:Array Value}(h:W.ownsRow base e size v n xs)(hH:W.heap[H]? =some (.cells cs t (0,0)))(ht:t≠e)(he:v.ownBlock=some H):False:=by
 rcases h.2 with⟨rfl,_⟩|⟨g,cap,cur,rfl,_,hc,_⟩
 ·cases he
 ·have e2:g=H:=by simpa[Value.ownBlock]using he
  subst e2
  rw[hH]at hc
  injection hc with hc
  injection hc with _ h2
  exact ht h2
theorem a4S {W:World}{b:Nat}{acc:List Int}(hW:Wr b acc W){A:Option Addr}{c:Nat}{ops:List OpV}(hr:y8 W b A 5 (ops.map OpV.c))(ho:∀a∈ops,a.ok)(hns:ops.length<=100)(hl:acc.length<=700000):
  Calls Tryz.prog 168 #[.pointer (some ⟨b,0,none⟩),.slice A ops.length c] W (FD b (acc++wX ops) W):=by
 have HR:=Lib.hid hr
 have HK:=Lib.hid ho
 have HW:=Lib.hid hW
 clear hr ho hW
 go_enter Tryz.func168,Tryz.ntmps168
 go_wp2_with fail
 go_loopg [8] ops.length (λg s8 wr=>∃i:Nat,s8=.int .i64 i/\i<=ops.length/\g=ops.length-i/\Wr b (acc++wX (ops.take i)) wr/\Wrote tU b W wr)
 case atStart=>exact⟨0,rfl,afb _,rfl,by simpa[wX]using HW.out,Wrote.refl _ _ _⟩
 case round=>
  obtain⟨i,rfl,hi,rfl,hwr,hwt⟩:=hrel
  have h0I:(0:Int)<=(i:Int):=afa _
  have HWR:=Lib.hid hwr
  have HWT:=Lib.hid hwt
  have hlt0:=hwr.lt
  clear hwr hwt
  rcases afp i ops.length with hlt|hge
  ·have hltI:(i:Int)<(ops.length:Int):=by omega
   obtain⟨a,hx⟩:∃a,ops[i]? =some a:=⟨_,aeK hlt⟩
   obtain⟨g,o,eA,hg,hs,hrng⟩:=(HR.out.wrote HWT.out) i a.c (by rw[aeT,hx];rfl)
   subst eA
   have hka:=HK.out a (aeY hx)
   have HTK:=Lib.hid (show wX (ops.take (i+1))=wX (ops.take i)++a.b from by unfold wX;exact vg _ hx)
   have hln:(acc++wX (ops.take i)).length<=702200:=by
    have:=oP OpV.b 22 (ops.take i) λx _=>x.len
    rw[afu]at this
    rw[aeL]
    unfold wX
    omega
   clear hx hs
   rcases a with n|⟨m,q⟩
   ·have c0:=hrng 0 _ rfl
    have c1:=hrng 1 _ rfl
    have c2:=hrng 2 _ rfl
    have c3:=hrng 3 _ rfl
    have c4:=hrng 4 _ rfl
    simp only[afS]at c0
    clear hrng
    obtain⟨n0,n1⟩:-9223372036854775808<=n/\n<=9223372036854775807:=hka
    generalize hAC:acc++wX (ops.take i)=ac0 at *
    have HAC0:=Lib.hid hAC
    clear hAC
    go_upto_region 4 with(go_at_call 53;refine(zn ((HWR.out.alloc _).alloc _) (ay (by simp)) (by omega) (by decide) (by decide) (by omega)).mono ?_;rintro e w1 ⟨rfl,wr1,wt1⟩)
    have hh1:w1.heap[wr.heap.size]? =some (.cells #[.int .u8 1,.int .i64 n,.int .i64 0,.bool false,.int .u8 0] tOp (0,0)):=jg (dA (ay rfl)) wt1 (by omega) (by decide)
    have HWT1:=Lib.hid ((dO (dO HWT.out (afk hlt0) _) (by simp;omega) _).trans wt1)
    have HHB:=Lib.hid (show wr.heap.size≠b by omega)
    generalize wr.heap.size=H at *
    have q0:w1.cell? ⟨H,0,none⟩=some (.int .u8 1):=by rw[Lib.cell_of_heap hh1];rfl
    have HWR1:=Lib.hid wr1
    have HH:=Lib.hid hh1
    clear c0 c1 c2 c3 c4 wr1 wt1 hh1
    go_upto_region 5 with fail
    clear q0
    have hp1:(Num.put 1).length<=11:=dw 1
    obtain⟨hf0,hf1⟩:=Num.wQ n n0 n1
    have hp0:=Num.put_pos (Num.fold n)
    have hp2:=Num.UZ (Num.fold n) (by omega)
    obtain⟨v,hb,ho⟩:=HWR1.out.x
    have HPC:=Lib.hid (λ(W1:World)=>JR n W1 n0 n1)
    generalize hZ:Num.put (Num.fold n)=zs at *
    have HZ:=Lib.hid hZ
    clear hZ
    have hal:(ac0++Num.put 1).length<=702300:=by rw[aeL];omega
    generalize hAC:ac0++Num.put 1=ac at *
    have HAC:=Lib.hid (show(acc++wX (ops.take i))++Num.put 1=ac from by rw[HAC0.out];exact hAC)
    clear hAC
    have HL:=Lib.hid hal
    clear hal hln hl hp1
    refine F7 [⟨H,1,none⟩] (by kernel_rfl) ?_
    have hb:w1.drew.heap[b]? =some (.cells #[v] tW (0,0)):=hb
    have ho:w1.drew.ownsRow (b+1) tU 1 v ac.length (ac.map (Value.int .u8)):=ho
    have hh:w1.drew.heap[H]? =some (.cells #[.int .u8 1,.int .i64 n,.int .i64 0,.bool false,.int .u8 0] tOp (0,0)):=HH.out
    have HD:=Lib.hid (show Wrote tU b W w1.drew from⟨HWT1.out.bel.drew,HWT1.out.oth.trans (λk o hk _ _=>hk)⟩)
    generalize w1.drew=wd at *
    have HNE:=Lib.hid (λ(W2:World) (v2:Value) (n2:Nat) (x2:List Value) (cs:Array Value) (h1:W2.ownsRow (b+1) tU 1 v2 n2 x2) (h2:W2.heap[H]? =some (.cells cs tOp (0,0))) (e:v2.ownBlock=some H)=>own_ne h1 h2 (by decide) e)
    have HB:=Lib.hid hb
    have HO:=Lib.hid ho
    have HHD:=Lib.hid hh
    have hlb:b<wd.heap.size:=(aeN.1 hb).1
    have k1:wd.cell? ⟨H,1,none⟩=some (.int .i64 n):=by rw[Lib.cell_of_heap hh];rfl
    have hlh:H<wd.heap.size:=(aeN.1 hh).1
    clear ho hb hh
    refine iK.take (i:=0) (v:=?_) (by kernel_rfl) rfl (by kernel_rfl) (by kernel_rfl) (λ_ _ _ _ _ h=>h) (by rfl) (λW hW=>?_) ?_;rotate_left;(focus(go_simp;with_reducible rfl));simp only[Act.put,aeJ,aeP,aeO]
    refine iK.take (i:=1) (v:=?_) (by kernel_rfl) rfl (by kernel_rfl) (by kernel_rfl) (λ_ _ _ _ _ h=>h) (by rfl) (λW hW=>?_) ?_;rotate_left;(focus(go_simp;with_reducible rfl));simp only[Act.put,aeJ,aeP,aeO]
    refine iK.take (i:=2) (v:=?_) (by kernel_rfl) rfl (by kernel_rfl) (by kernel_rfl) (λ_ _ _ _ _ h=>h) (by rfl) (λW hW=>?_) ?_;rotate_left;(focus(go_simp;with_reducible rfl));simp only[Act.put,aeJ,aeP,aeO]
    refine iK.take (i:=3) (v:=?_) (by kernel_rfl) rfl (by kernel_rfl) (by kernel_rfl) (λ_ _ _ _ _ h=>h) (by rfl) (λW hW=>?_) ?_;rotate_left;(focus(go_simp;with_reducible rfl));simp only[Act.put,aeJ,aeP,aeO]
    refine iK.take (i:=5) (v:=?_) (by kernel_rfl) rfl (by kernel_rfl) (by kernel_rfl) (λ_ _ _ _ _ h=>h) (by rfl) (λW hW=>?_) ?_;rotate_left;(focus(go_simp;with_reducible rfl));simp only[Act.put,aeJ,aeP,aeO]
    refine iK.take (i:=6) (v:=?_) (by kernel_rfl) rfl (by kernel_rfl) (by kernel_rfl) (λ_ _ _ _ _ h=>h) (by rfl) (λW hW=>?_) ?_;rotate_left;(focus(have z0:=hW.get (by simp) k1;go_simp;with_reducible rfl));simp only[Act.put,aeJ,aeP,aeO]
    clear k1
    refine iK.all (rs:=[4,7]) (by kernel_rfl) rfl ?_
    intro j hj
    simp only[aeQ,aeZ,afj]at hj
    rcases hj with rfl|rfl
    ·have d0:wd.cell? ⟨b,0,none⟩=some v:=by rw[Lib.cell_of_heap HB.out];rfl
     refine cVal (v:=v) (w':=wd) rfl (by rfl) (by go_simp;try with_reducible rfl) (Cells.refl _ _) ?_
     simp only[Act.put,aeJ,aeP,aeO]
     clear d0
     refine iK.one (i:=7) (by kernel_rfl) ?_
     refine Xk (f:=?_) (args:=?_) rfl (by rfl) ?_ ?_
     rotate_left 2
     ·(go_simp;first |with_reducible rfl|(refine⟨?_,?_⟩<;>with_reducible rfl))
     refine(HPC.out _).mono ?_
     rintro e w2 ⟨s1,rfl,own1,b1⟩
     refine⟨_,rfl,Cells.nM b1 (λp hp=>by rw[aeR.1 hp];exact hlh),?_⟩
     simp only[Act.put,aeJ,aeP,aeO]
     have HDX:=Lib.hid (HD.out.trans (Wrote.of_below b1 (afk hlb)))
     have hbX:=(b1.block _ hlb).trans HB.out
     have hhX:=(b1.block _ hlh).trans HHD.out
     have hoX:=wC HO.out b1
     have hlb1:b<w2.heap.size:=afe hlb b1.size
     have HC:=Lib.hid own1
     clear own1 b1
     refine iK.one (i:=8) (by kernel_rfl) ?_
     refine a7H rfl (by rfl) _ _ (b+1) 50 tU (.int .u8 0) 1 1 rfl Tryz.underlying50 GI rfl (by decide) rfl hoX (by rfl) (oD HC.out) (λel he u hu=>by obtain⟨q,_,rfl⟩:=afo.1 he;rw[aeR.1 hu];rfl) (by rw[af4];have:=HL.out;omega) (by decide) (by omega) (by rw[af4];omega) (λp hp=>by rw[aeR.1 hp];exact⟨(aeN.1 hhX).1,λe=>HNE.out _ _ _ _ _ hoX hhX e⟩) (λgg cc w2 hown2 hg2=>?_)
     simp only[Act.put,aeJ,aeP,aeO]
     rw[qV,af4]at hown2
     rw[af4]
     have HP:=Lib.hid (Wr.put hbX hoX hg2 hown2)
     have hbv:v.ownBlock≠some b:=λe=>by have:=(hoX.lt b e).1;omega
     have hb2:w2.heap[b]? =some (.cells #[v] tW (0,0)):=ru hg2 hbX (λe=>hbv e.symm)
     have d2:w2.cell? ⟨b,0,none⟩=some v:=by rw[Lib.cell_of_heap hb2];rfl
     have f2:w2.frozen? ⟨b,0,none⟩=false:=Lib.frozen_of_heap hb2 0
     clear hown2 hg2 hbX hoX hbv hb2 hhX
     refine iK.take (i:=9) (v:=?_) (by kernel_rfl) rfl (by kernel_rfl) (by kernel_rfl) (λ_ _ _ _ _ h=>h) (by rfl) (λW hW=>?_) ?_;rotate_left;(focus(go_simp;with_reducible rfl));simp only[Act.put,aeJ,aeP,aeO]
     refine iK.take (i:=10) (v:=?_) (by kernel_rfl) rfl (by kernel_rfl) (by kernel_rfl) (λ_ _ _ _ _ h=>h) (by rfl) (λW hW=>?_) ?_;rotate_left;(focus(go_simp;with_reducible rfl));simp only[Act.put,aeJ,aeP,aeO]
     refine iK.one (i:=11) (by kernel_rfl) ?_
     refine Xf (w':=w2.setCell ⟨b,0,none⟩ (.slice (some ⟨gg,0,none⟩) (ac.length+zs.length) cc)) rfl (by rfl) (by go_simp;try with_reducible rfl) (λp hp=>by rw[aeR.1 hp];exact ahI (ahM _ _ _ _ HHB.out)) ?_
     simp only[Act.put]
     refine iK.done (by kernel_rfl) ?_
     clear d2 f2
     have HWF:=Lib.hid (HDX.out.trans HP.out.2)
     have HWG:=Lib.hid HP.out.1
     generalize w2.setCell ⟨b,0,none⟩ (.slice (some ⟨gg,0,none⟩) (ac.length+zs.length) cc)=wf at *
     go_wp2_with fail
     go_roundg (ops.length-(i+1))
     case measure=>omega
     case rel=>exact⟨i+1,by simp,by omega,rfl,by rw[HTK.out];have:=HWG.out;rw[<-HZ.out,<-HAC.out]at this;simpa[OpV.b,af9]using this,HWF.out⟩
    ·refine Xk (f:=?_) (args:=?_) rfl (by rfl) ?_ ?_
     rotate_left 2
     ·(go_simp;first |with_reducible rfl|(refine⟨?_,?_⟩<;>with_reducible rfl))
     refine(HPC.out _).mono ?_
     rintro e w2 ⟨s1,rfl,own1,b1⟩
     refine⟨_,rfl,Cells.nM b1 (λp hp=>by rw[aeR.1 hp];exact hlh),?_⟩
     simp only[Act.put,aeJ,aeP,aeO]
     have HDX:=Lib.hid (HD.out.trans (Wrote.of_below b1 (afk hlb)))
     have hbX:=(b1.block _ hlb).trans HB.out
     have hhX:=(b1.block _ hlh).trans HHD.out
     have hoX:=wC HO.out b1
     have hlb1:b<w2.heap.size:=afe hlb b1.size
     have HC:=Lib.hid own1
     clear own1 b1
     have d0:w2.cell? ⟨b,0,none⟩=some v:=by rw[Lib.cell_of_heap hbX];rfl
     refine iK.one (i:=4) (by kernel_rfl) ?_
     refine cVal (v:=v) (w':=w2) rfl (by rfl) (by go_simp;try with_reducible rfl) (Cells.refl _ _) ?_
     simp only[Act.put,aeJ,aeP,aeO]
     clear d0
     refine iK.one (i:=8) (by kernel_rfl) ?_
     refine a7H rfl (by rfl) _ _ (b+1) 50 tU (.int .u8 0) 1 1 rfl Tryz.underlying50 GI rfl (by decide) rfl hoX (by rfl) (oD HC.out) (λel he u hu=>by obtain⟨q,_,rfl⟩:=afo.1 he;rw[aeR.1 hu];rfl) (by rw[af4];have:=HL.out;omega) (by decide) (by omega) (by rw[af4];omega) (λp hp=>by rw[aeR.1 hp];exact⟨(aeN.1 hhX).1,λe=>HNE.out _ _ _ _ _ hoX hhX e⟩) (λgg cc w2 hown2 hg2=>?_)
     simp only[Act.put,aeJ,aeP,aeO]
     rw[qV,af4]at hown2
     rw[af4]
     have HP:=Lib.hid (Wr.put hbX hoX hg2 hown2)
     have hbv:v.ownBlock≠some b:=λe=>by have:=(hoX.lt b e).1;omega
     have hb2:w2.heap[b]? =some (.cells #[v] tW (0,0)):=ru hg2 hbX (λe=>hbv e.symm)
     have d2:w2.cell? ⟨b,0,none⟩=some v:=by rw[Lib.cell_of_heap hb2];rfl
     have f2:w2.frozen? ⟨b,0,none⟩=false:=Lib.frozen_of_heap hb2 0
     clear hown2 hg2 hbX hoX hbv hb2 hhX
     refine iK.take (i:=9) (v:=?_) (by kernel_rfl) rfl (by kernel_rfl) (by kernel_rfl) (λ_ _ _ _ _ h=>h) (by rfl) (λW hW=>?_) ?_;rotate_left;(focus(go_simp;with_reducible rfl));simp only[Act.put,aeJ,aeP,aeO]
     refine iK.take (i:=10) (v:=?_) (by kernel_rfl) rfl (by kernel_rfl) (by kernel_rfl) (λ_ _ _ _ _ h=>h) (by rfl) (λW hW=>?_) ?_;rotate_left;(focus(go_simp;with_reducible rfl));simp only[Act.put,aeJ,aeP,aeO]
     refine iK.one (i:=11) (by kernel_rfl) ?_
     refine Xf (w':=w2.setCell ⟨b,0,none⟩ (.slice (some ⟨gg,0,none⟩) (ac.length+zs.length) cc)) rfl (by rfl) (by go_simp;try with_reducible rfl) (λp hp=>by rw[aeR.1 hp];exact ahI (ahM _ _ _ _ HHB.out)) ?_
     simp only[Act.put]
     refine iK.done (by kernel_rfl) ?_
     clear d2 f2
     have HWF:=Lib.hid (HDX.out.trans HP.out.2)
     have HWG:=Lib.hid HP.out.1
     generalize w2.setCell ⟨b,0,none⟩ (.slice (some ⟨gg,0,none⟩) (ac.length+zs.length) cc)=wf at *
     go_wp2_with fail
     go_roundg (ops.length-(i+1))
     case measure=>omega
     case rel=>exact⟨i+1,by simp,by omega,rfl,by rw[HTK.out];have:=HWG.out;rw[<-HZ.out,<-HAC.out]at this;simpa[OpV.b,af9]using this,HWF.out⟩
   ·have c0:=hrng 0 _ rfl
    have c1:=hrng 1 _ rfl
    have c2:=hrng 2 _ rfl
    have c3:=hrng 3 _ rfl
    have c4:=hrng 4 _ rfl
    simp only[afS]at c0
    clear hrng
    have hkq:q.ok:=hka
    generalize hAC:acc++wX (ops.take i)=ac0 at *
    have HAC0:=Lib.hid hAC
    clear hAC
    have hkm:0<=kdM m/\kdM m<=9/\kdM m≠1:=by cases m<;>decide
    obtain⟨m0,m1,m2⟩:=hkm
    have hne:(kdM m==1)=false:=by simpa using m2
    generalize hKM:kdM m=km at *
    have HKM:=Lib.hid hKM
    clear hKM
    have HQ:=Lib.hid hkq
    obtain⟨ql,qd,qf⟩:=q
    go_upto_region 4 with(go_at_call 53;refine(zn ((HWR.out.alloc _).alloc _) (ay (by simp)) (by omega) m0 (by omega) (by omega)).mono ?_;rintro e w1 ⟨rfl,wr1,wt1⟩)
    have hh1:w1.heap[wr.heap.size]? =some (.cells #[.int .u8 km,.int .i64 0,.int .i64 ql,.bool qd,.int .u8 qf] tOp (0,0)):=jg (dA (ay rfl)) wt1 (by omega) (by decide)
    have HWT1:=Lib.hid ((dO (dO HWT.out (afk hlt0) _) (by simp;omega) _).trans wt1)
    generalize wr.heap.size=H at *
    have q0:w1.cell? ⟨H,0,none⟩=some (.int .u8 km):=by rw[Lib.cell_of_heap hh1];rfl
    have q2:w1.cell? ⟨H,2,none⟩=some (.int .i64 ql):=by rw[Lib.cell_of_heap hh1];rfl
    have q3:w1.cell? ⟨H,3,none⟩=some (.bool qd):=by rw[Lib.cell_of_heap hh1];rfl
    have q4:w1.cell? ⟨H,4,none⟩=some (.int .u8 qf):=by rw[Lib.cell_of_heap hh1];rfl
    have HWR1:=Lib.hid wr1
    have hpk:=dw km
    have hal:(ac0++Num.put km).length<=702300:=by rw[aeL];omega
    clear c0 c1 c2 c3 c4 wr1 wt1 hh1
    go_wp2_with (go_at_call 166;refine(Rt HWR1.out HQ.out (by omega)).mono ?_;rintro e w2 ⟨rfl,wr2,wt2⟩)
    have HWR2:=Lib.hid wr2
    have HWT2:=Lib.hid (HWT1.out.trans wt2)
    clear wr2 wt2 q0 q2 q3 q4
    go_roundg (ops.length-(i+1))
    case measure=>omega
    case rel=>exact⟨i+1,by simp,by omega,rfl,by rw[HTK.out];have:=HWR2.out;rw[<-HKM.out,<-HAC0.out]at this;simpa[OpV.b,af9]using this,HWT2.out⟩
  ·obtain rfl:i=ops.length:=by omega
   rw[afq]at HWR
   go_wp2_with fail
   go_end0
   exact⟨rfl,HWR.out,HWT.out⟩
