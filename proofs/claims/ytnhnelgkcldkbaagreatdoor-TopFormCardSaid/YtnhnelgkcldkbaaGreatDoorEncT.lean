/- encode: rvalues, statements and jumps behind what a writer holds. encode: statements and jumps behind what a writer holds. -/
import Derived.Test.YtnhnelgkcldkbaaGreatDoorEncV
set_option linter.all false
set_option maxHeartbeats 8000000
set_option maxRecDepth 100000
open Nat renaming reduceAdd → aia
namespace Go.Proofs.YtnhnelgkcldkbaaGreatDoor
namespace enc
open Go.RowKit Am loan bld
theorem a9I {W:World}{b G:Nat}{acc:List Int}{a:OpV}(hW:Wr b acc W)(hG:W.heap[G]? =some (.cells a.c.toArray tOp (0,0)))(hb:G≠b)(ho:a.ok)(hl:acc.length<=700000):
  Calls Tryz.prog 168 #[.pointer (some ⟨b,0,none⟩),.slice (some ⟨G,0,none⟩) 1 1] W (FD b (acc++a.b) W):=by
 have h:=a4S (ops:=[a]) (c:=1) hW (y8.new (sz:=5) (t:=tOp) (els:=[a.c]) hb (by decide) (by intro x hx;rw[aeR.1 hx];cases a<;>rfl) (by rw[afP,agH,aft];exact hG)) (by intro x hx;rw[aeR.1 hx];exact ho) (show 1<=100 by decide) hl
 unfold wX at h
 rw[ag0,agI,aft]at h
 exact h
theorem abD {W:World}{b G:Nat}{acc:List Int}{a a':OpV}(hW:Wr b acc W)(hG:W.heap[G]? =some (.cells (a.c++a'.c).toArray tOp (0,0)))(hb:G≠b)(ho:a.ok)(ho':a'.ok)(hl:acc.length<=700000):
  Calls Tryz.prog 168 #[.pointer (some ⟨b,0,none⟩),.slice (some ⟨G,0,none⟩) 2 2] W (FD b (acc++(a.b++a'.b)) W):=by
 have h:=a4S (ops:=[a,a']) (c:=2) hW (y8.new (sz:=5) (t:=tOp) (els:=[a.c,a'.c]) hb (by decide) (by intro x hx;simp only[aeQ,aeZ,afj]at hx;rcases hx with rfl|rfl<;>(first |(cases a<;>rfl)|(cases a'<;>rfl))) (by rw[afP,afP,agH,aft];exact hG)) (by intro x hx;simp only[aeQ,aeZ,afj]at hx;rcases hx with rfl|rfl<;>first |exact ho|exact ho') (show 2<=100 by decide) hl
 unfold wX at h
 rw[ag0,ag0,agI,aft]at h
 exact h
theorem OpV.five (a:OpV):∃a0 a1 a2 a3 a4,a.c=[a0,a1,a2,a3,a4]:=by cases a<;>exact⟨_,_,_,_,_,rfl⟩
theorem a4w {W:World}{H:Nat}{cs:List Value}{t:TypeId}(h:W.heap[H]? =some (.cells cs.toArray t (0,0))){j:Nat}{v:Value}(e:cs[j]? =some v):W.cell? ⟨H,j,none⟩=some v:=by
 rw[Lib.cell_of_heap h,agU,e]
def qg (W:World)(H:Nat):Nat->List Value->Prop
 |_,[]=>True
 |k,v::L=>W.cell? ⟨H,k,none⟩=some v/\qg W H (k+1) L
theorem qg.go {W:World}{H:Nat}:∀{L:List Value} {k:Nat},(∀j v,L[j]? =some v->W.cell? ⟨H,k+j,none⟩=some v)->qg W H k L
 |[],_,_=>trivial
 |v::L,k,h=>⟨h 0 v rfl,qg.go λj u hj=>by have:=h (j+1) u hj;rwa[<-afZ,Nat.add_right_comm]at this⟩
theorem qg.of {W:World}{H:Nat}{cs:List Value}{t:TypeId}(h:W.heap[H]? =some (.cells cs.toArray t (0,0))):qg W H 0 cs:=qg.go λj v e=>by rw[afK];exact a4w h e
theorem adu {W:World}{b:Nat}{acc:List Int}(hW:Wr b acc W){r:RvV}(hr:r.ok)(hl:acc.length<=600000):Calls Tryz.prog 167 #[.pointer (some ⟨b,0,none⟩),.agg r.c.toArray] W (FD b (acc++r.b) W):=by
 have hlt:=hW.lt
 have HW:=Lib.hid hW
 clear hW
 have p1:=dw 1
 have p2:=dw 2
 have p3:=dw 3
 have p4:=dw 4
 have p5:=dw 5
 cases r
 case' use a=>obtain⟨a0,a1,a2,a3,a4,ea⟩:=a.five;have HE:=Lib.hid ea;have HO:=Lib.hid hr;have hc:(RvV.use a).c=[.int .u8 1,.int .u8 0,.int .u8 0,a0,a1,a2,a3,a4,.int .u8 0,.int .i64 0,.int .i64 0,.bool false,.int .u8 0,.int .i64 0,.bool false,.int .u8 0]:=by rw[RvV.c,ea];rfl
 case' bin o a a'=>obtain⟨a0,a1,a2,a3,a4,ea⟩:=a.five;obtain⟨d0,d1,d2,d3,d4,ed⟩:=a'.five;have HE:=Lib.hid (And.intro ea ed);have HO:=Lib.hid hr;obtain⟨o1,o6,-⟩:=hr;have hc:(RvV.bin o a a').c=[.int .u8 2,.int .u8 o,.int .u8 0,a0,a1,a2,a3,a4,d0,d1,d2,d3,d4,.int .i64 0,.bool false,.int .u8 0]:=by rw[RvV.c,ea,ed];rfl
 case' two a a'=>obtain⟨a0,a1,a2,a3,a4,ea⟩:=a.five;obtain⟨d0,d1,d2,d3,d4,ed⟩:=a'.five;have HE:=Lib.hid (And.intro ea ed);have HO:=Lib.hid hr;have hc:(RvV.two a a').c=[.int .u8 3,.int .u8 0,.int .u8 0,a0,a1,a2,a3,a4,d0,d1,d2,d3,d4,.int .i64 0,.bool false,.int .u8 0]:=by rw[RvV.c,ea,ed];rfl
 case' ref o q=>have HO:=Lib.hid hr;obtain⟨o1,o6,-⟩:=hr;have hc:(RvV.ref o q).c=[.int .u8 4,.int .u8 0,.int .u8 o,.int .u8 0,.int .i64 0,.int .i64 0,.bool false,.int .u8 0,.int .u8 0,.int .i64 0,.int .i64 0,.bool false,.int .u8 0,.int .i64 q.l,.bool q.d,.int .u8 q.f]:=rfl
 case' raw q=>have HO:=Lib.hid hr;have hc:(RvV.raw q).c=[.int .u8 5,.int .u8 0,.int .u8 0,.int .u8 0,.int .i64 0,.int .i64 0,.bool false,.int .u8 0,.int .u8 0,.int .i64 0,.int .i64 0,.bool false,.int .u8 0,.int .i64 q.l,.bool q.d,.int .u8 q.f]:=rfl
 all_goals(
  rw[hc]
  clear hc
  go_enter Tryz.func167,Tryz.ntmps167
  go_upto_region 2 with(go_at_call 53;refine(zn ((HW.out.alloc _).alloc _) (ay (by simp)) (by omega) (by decide) (by decide) (by omega)).mono ?_;rintro e w1 ⟨rfl,wr1,wt1⟩)
  have hh1:w1.heap[W.heap.size]? =some (.cells _ tRv (0,0)):=jg (dA (ay rfl)) wt1 (by omega) (by decide)
  have HT1:=Lib.hid ((dO (dO (Wrote.refl tU b W) (afk hlt) _) (by simp;omega) _).trans wt1)
  have hHb:W.heap.size≠b:=by omega
  generalize W.heap.size=H at *
  have q:=qg.of hh1
  simp only[qg,aia,agJ]at q
  obtain⟨q0,q1,q2,q3,q4,q5,q6,q7,q8,q9,q10,q11,q12,q13,q14,q15⟩:=q
  have HR1:=Lib.hid wr1
  have HH1:=Lib.hid hh1
  have hlt1:=wr1.lt
  clear wr1 wt1 hh1)
 ·go_wp2_with (go_at_call 166;refine(Rt HR1.out HO.out (by simp only[aeL];omega)).mono ?_;rintro e w3 ⟨rfl,wr3,wt3⟩)
  go_end0
  exact⟨rfl,by simpa[RvV.b,af9]using wr3,HT1.out.trans wt3⟩
 ·go_upto_region 12 with(go_at_call 53;refine(zn (HR1.out.alloc _) (ay rfl) (by omega) (by omega) (by omega) (by rw[aeL];omega)).mono ?_;rintro e w2 ⟨rfl,wr2,wt2⟩)
  have hh2:=jg (dA HH1.out) wt2 hHb (by decide)
  have HT2:=Lib.hid ((dO HT1.out (afk hlt1) _).trans wt2)
  have hl2:=dw o
  clear q0 q1 q2 q3 q4 q5 q6 q7 q8 q9 q10 q11 q12 q13 q14 q15
  have q:=qg.of hh2
  simp only[qg,aia,agJ]at q
  obtain⟨q0,q1,q2,q3,q4,q5,q6,q7,q8,q9,q10,q11,q12,q13,q14,q15⟩:=q
  have HR2:=Lib.hid wr2
  have hlt2:=wr2.lt
  clear wr2 wt2 hh2
  go_wp2_with (go_at_call 166;refine(Rt HR2.out HO.out.2.2 (by simp only[aeL];omega)).mono ?_;rintro e w3 ⟨rfl,wr3,wt3⟩)
  go_end0
  exact⟨rfl,by simpa[RvV.b,af9]using wr3,HT2.out.trans wt3⟩
 ·go_wp2_with (go_at_call 168;refine(abD (HR1.out.alloc _) (by rw[HE.out.1,HE.out.2];exact ay rfl) (by omega) HO.out.1 HO.out.2 (by simp only[aeL];omega)).mono ?_;rintro e w3 ⟨rfl,wr3,wt3⟩)
  go_end0
  exact⟨rfl,by simpa[RvV.b,af9]using wr3,(dO HT1.out (afk hlt1) _).trans wt3⟩
 ·go_upto_region 7 with(go_at_call 53;refine(zn (HR1.out.alloc _) (ay rfl) (by omega) (by omega) (by omega) (by rw[aeL];omega)).mono ?_;rintro e w2 ⟨rfl,wr2,wt2⟩)
  have hh2:=jg (dA HH1.out) wt2 hHb (by decide)
  have HT2:=Lib.hid ((dO HT1.out (afk hlt1) _).trans wt2)
  have hl2:=dw o
  clear q0 q1 q2 q3 q4 q5 q6 q7 q8 q9 q10 q11 q12 q13 q14 q15
  have q:=qg.of hh2
  simp only[qg,aia,agJ]at q
  obtain⟨q0,q1,q2,q3,q4,q5,q6,q7,q8,q9,q10,q11,q12,q13,q14,q15⟩:=q
  have HR2:=Lib.hid wr2
  have hlt2:=wr2.lt
  clear wr2 wt2 hh2
  go_wp2_with (go_at_call 168;refine(abD (HR2.out.alloc _) (by rw[HE.out.1,HE.out.2];exact ay rfl) (by omega) HO.out.2.2.1 HO.out.2.2.2 (by simp only[aeL];omega)).mono ?_;rintro e w3 ⟨rfl,wr3,wt3⟩)
  go_end0
  exact⟨rfl,by simpa[RvV.b,af9]using wr3,(dO HT2.out (afk hlt2) _).trans wt3⟩
 ·go_wp2_with (go_at_call 168;refine(a9I (HR1.out.alloc _) (by rw[HE.out];exact ay rfl) (by omega) HO.out (by rw[aeL];omega)).mono ?_;rintro e w2 ⟨rfl,wr2,wt2⟩)
  go_end0
  exact⟨rfl,by simpa[RvV.b,af9]using wr2,(dO HT1.out (afk hlt1) _).trans wt2⟩
theorem RvV.Xi (r:RvV):r.c.length=16:=by
 rcases r with a|⟨o,a,a'⟩|⟨a,a'⟩|⟨o,q⟩|q
 ·cases a<;>rfl
 ·cases a<;>cases a'<;>rfl
 ·cases a<;>cases a'<;>rfl
 ·rfl
 ·rfl
theorem ads {W:World}{b:Nat}{acc:List Int}(hW:Wr b acc W){s:StV}(hs:s.ok)(hl:acc.length<=500000):Calls Tryz.prog 109 #[.pointer (some ⟨b,0,none⟩),.agg s.c.toArray] W (FD b (acc++s.b) W):=by
 have hlt:=hW.lt
 have HW:=Lib.hid hW
 clear hW
 cases s
 case asg q r=>
  obtain⟨ql,qd,qf⟩:=q
  obtain⟨hq,hr⟩:PlV.ok ⟨ql,qd,qf⟩/\r.ok:=hs
  have HQ:=Lib.hid hq
  have HV:=Lib.hid hr
  clear hq hr
  generalize hcs:StV.c (.asg ⟨ql,qd,qf⟩ r)=cs
  have HCS:=Lib.hid (show cs=[.int .u8 1,.int .i64 ql,.bool qd,.int .u8 qf]++(r.c++(zO++[.int .i64 0]))from hcs.symm)
  clear hcs
  go_enter Tryz.func109,Tryz.ntmps109
  go_upto_region 1 with fail
  have hh0:(W.alloc (.cells cs.toArray tSt)).heap[W.heap.size]? =some (.cells cs.toArray tSt (0,0)):=ay rfl
  have HR0:=Lib.hid (HW.out.alloc (.cells cs.toArray tSt))
  have HT0:=Lib.hid (dO (Wrote.refl tU b W) (afk hlt) (.cells cs.toArray tSt))
  have hHb:W.heap.size≠b:=by omega
  generalize W.heap.size=H at *
  generalize W.alloc (.cells cs.toArray tSt)=w0 at *
  have q0:w0.cell? ⟨H,0,none⟩=some (.int .u8 1):=by rw[Lib.cell_of_heap hh0,HCS.out];rfl
  have HH0:=Lib.hid hh0
  have hlt0:=HR0.out.lt
  clear hh0
  go_upto_region 2 with(go_at_call 53;refine(zn (HR0.out.alloc _) (ay rfl) (by omega) (by decide) (by decide) (by omega)).mono ?_;rintro e w1 ⟨rfl,wr1,wt1⟩)
  have hh1:w1.heap[H]? =some (.cells cs.toArray tSt (0,0)):=jg (dA HH0.out) wt1 hHb (by decide)
  have HT1:=Lib.hid ((dO HT0.out (afk hlt0) _).trans wt1)
  have HR1:=Lib.hid wr1
  have hl1:=dw 1
  clear q0
  have q0:w1.cell? ⟨H,0,none⟩=some (.int .u8 1):=by rw[Lib.cell_of_heap hh1,HCS.out];rfl
  have q1:w1.cell? ⟨H,1,none⟩=some (.int .i64 ql):=by rw[Lib.cell_of_heap hh1,HCS.out];rfl
  have q2:w1.cell? ⟨H,2,none⟩=some (.bool qd):=by rw[Lib.cell_of_heap hh1,HCS.out];rfl
  have q3:w1.cell? ⟨H,3,none⟩=some (.int .u8 qf):=by rw[Lib.cell_of_heap hh1,HCS.out];rfl
  have HH1:=Lib.hid hh1
  clear hh1 wr1 wt1
  go_upto_region 6 with(go_at_call 166;refine(Rt HR1.out HQ.out (by rw[aeL];omega)).mono ?_;rintro e w2 ⟨rfl,wr2,wt2⟩)
  have hh2:w2.heap[H]? =some (.cells cs.toArray tSt (0,0)):=jg HH1.out wt2 hHb (by decide)
  have HT2:=Lib.hid (HT1.out.trans wt2)
  have HR2:=Lib.hid wr2
  have hl2:=PlV.len ⟨ql,qd,qf⟩
  have HG:=Lib.hid (show w2.rangeAt H 4 r.c from EH (X:=[.int .u8 1,.int .i64 ql,.bool qd,.int .u8 qf]) hh2 HCS.out)
  clear hh2 wr2 wt2 q0 q1 q2 q3
  go_wp2_with (first |(refine wpList_load_mid rfl tRv _ rfl H 4 rfl r.c _ HG.out Tryz.underlying61 rfl (by rw[RvV.Xi];exact rvR) ?_)|(go_at_call 167;refine(adu HR2.out HV.out (by simp only[aeL];omega)).mono ?_;rintro e w3 ⟨rfl,wr3,wt3⟩))
  go_end0
  exact⟨rfl,by simpa[StV.b,af9]using wr3,HT2.out.trans wt3⟩
 case' one m a=>
  have hkm:0<=kdO m/\kdO m<=9/\kdO m≠1/\kdO m≠3:=by cases m<;>decide
  obtain⟨m0,m1,m2,m3⟩:=hkm
  obtain⟨a0,a1,a2,a3,a4,ea⟩:=a.five
  have HE:=Lib.hid ea
  have HO:=Lib.hid hs
  have e1:(kdO m==1)=false:=by simpa using m2
  have e3:(kdO m==3)=false:=by simpa using m3
  have hc:(StV.one m a).c=[.int .u8 (kdO m),.int .i64 0,.bool false,.int .u8 0,.int .u8 0,.int .u8 0,.int .u8 0,.int .u8 0,.int .i64 0,.int .i64 0,.bool false,.int .u8 0,.int .u8 0,.int .i64 0,.int .i64 0,.bool false,.int .u8 0,.int .i64 0,.bool false,.int .u8 0,a0,a1,a2,a3,a4,.int .i64 0]:=by rw[StV.c,ea];rfl
  rw[hc,StV.b]
  generalize kdO m=km at *
  have hk:=dw km
 case' fresh l=>
  obtain⟨l0,l1⟩:0<=l/\l<=15:=hs
  have hk:=dw 3
  have hc:(StV.fresh l).c=[.int .u8 3,.int .i64 0,.bool false,.int .u8 0,.int .u8 0,.int .u8 0,.int .u8 0,.int .u8 0,.int .i64 0,.int .i64 0,.bool false,.int .u8 0,.int .u8 0,.int .i64 0,.int .i64 0,.bool false,.int .u8 0,.int .i64 0,.bool false,.int .u8 0,.int .u8 0,.int .i64 0,.int .i64 0,.bool false,.int .u8 0,.int .i64 l]:=rfl
  rw[hc]
 all_goals(
  clear hc
  go_enter Tryz.func109,Tryz.ntmps109
  go_upto_region 2 with(go_at_call 53;refine(zn ((HW.out.alloc _).alloc _) (ay (by simp)) (by omega) (by omega) (by omega) (by omega)).mono ?_;rintro e1 w1 ⟨rfl,wr1,wt1⟩)
  have hh1:w1.heap[W.heap.size]? =some (.cells _ tSt (0,0)):=jg (dA (ay rfl)) wt1 (by omega) (by decide)
  have HT1:=Lib.hid ((dO (dO (Wrote.refl tU b W) (afk hlt) _) (by simp;omega) _).trans wt1)
  have hHb:W.heap.size≠b:=by omega
  generalize W.heap.size=H at *
  have q:=qg.of hh1
  simp only[qg,aia,agJ]at q
  obtain⟨q0,q1,q2,q3,q4,q5,q6,q7,q8,q9,q10,q11,q12,q13,q14,q15,q16,q17,q18,q19,q20,q21,q22,q23,q24,q25⟩:=q
  have HR1:=Lib.hid wr1
  have HH1:=Lib.hid hh1
  have hlt1:=wr1.lt
  clear wr1 wt1 hh1)
 ·go_wp2_with (go_at_call 53;refine(zn (HR1.out.alloc _) (ay rfl) (by omega) (by omega) (by omega) (by rw[aeL];omega)).mono ?_;rintro e w2 ⟨rfl,wr2,wt2⟩)
  go_end0
  exact⟨rfl,by simpa[StV.b,af9]using wr2,(dO HT1.out (afk hlt1) _).trans wt2⟩
 ·go_wp2_with (go_at_call 168;refine(a9I (HR1.out.alloc _) (by rw[HE.out];exact ay rfl) (by omega) HO.out (by rw[aeL];omega)).mono ?_;rintro e w2 ⟨rfl,wr2,wt2⟩)
  go_end0
  exact⟨rfl,by simpa[af9]using wr2,(dO HT1.out (afk hlt1) _).trans wt2⟩
theorem abW {W:World}{b:Nat}{acc:List Int}(hW:Wr b acc W){j:JmV}{ops:List OpV}(hj:j.ok ops){A:Option Addr}{c:Nat}(hr:y8 W b A 5 (ops.map OpV.c))(hl:acc.length<=500000):Calls Tryz.prog 110 #[.pointer (some ⟨b,0,none⟩),.agg (j.pre++.slice A ops.length c::j.post).toArray] W (FD b (acc++j.b ops) W):=by
 have hlt:=hW.lt
 have HW:=Lib.hid hW
 have HS:=Lib.hid (λ(W':World) (h:Wrote tU b W W')=>hr.wrote h)
 clear hW hr
 have p1:=dw 1
 have p2:=dw 2
 have p3:=dw 3
 have p4:=dw 4
 have p5:=dw 5
 cases j
 case' go n=>
  obtain⟨⟨n0,n1⟩,-⟩:(0<=n/\n<=23)/\ops=[]:=hj
  have hc:(JmV.go n).pre++.slice A ops.length c::(JmV.go n).post=[.int .u8 1,.int .u8 0,.int .i64 0,.int .i64 0,.bool false,.int .u8 0,.int .i64 0,.int .i64 n,.int .i64 0,.slice A ops.length c,.int .i64 0,.bool false,.int .u8 0]:=rfl
 case' br a n e=>
  obtain⟨⟨n0,n1⟩,⟨e0,e1⟩,ha,-⟩:(0<=n/\n<=23)/\(0<=e/\e<=23)/\a.ok/\ops=[]:=hj
  obtain⟨a0,a1,a2,a3,a4,ea⟩:=a.five
  have HO:=Lib.hid (And.intro ha ea)
  have ho1:=a.len
  have hc:(JmV.br a n e).pre++.slice A ops.length c::(JmV.br a n e).post=[.int .u8 2,a0,a1,a2,a3,a4,.int .i64 0,.int .i64 n,.int .i64 e,.slice A ops.length c,.int .i64 0,.bool false,.int .u8 0]:=by simp only[JmV.pre,JmV.post,ea];rfl
  clear ha ea
 case' ret=>
  have hc:JmV.ret.pre++.slice A ops.length c::JmV.ret.post=[.int .u8 3,.int .u8 0,.int .i64 0,.int .i64 0,.bool false,.int .u8 0,.int .i64 0,.int .i64 0,.int .i64 0,.slice A ops.length c,.int .i64 0,.bool false,.int .u8 0]:=rfl
 case' abort=>
  have hc:JmV.abort.pre++.slice A ops.length c::JmV.abort.post=[.int .u8 5,.int .u8 0,.int .i64 0,.int .i64 0,.bool false,.int .u8 0,.int .i64 0,.int .i64 0,.int .i64 0,.slice A ops.length c,.int .i64 0,.bool false,.int .u8 0]:=rfl
 case' call f q n=>
  obtain⟨⟨f0,f1⟩,⟨n0,n1⟩,hq,h8,ho⟩:(0<=f/\f<=7)/\(0<=n/\n<=23)/\q.ok/\ops.length<=8/\∀a∈ops,a.ok:=hj
  have HQ:=Lib.hid hq
  have HO:=Lib.hid ho
  have hol:=a7Z h8
  have hln:(0:Int)<=(ops.length:Nat):=afa _
  have hpn:=dw (ops.length:Nat)
  have hpf:=dw f
  have hpq:=q.len
  clear hq ho
  have hc:(JmV.call f q n).pre++.slice A ops.length c::(JmV.call f q n).post=[.int .u8 4,.int .u8 0,.int .i64 0,.int .i64 0,.bool false,.int .u8 0,.int .i64 f,.int .i64 n,.int .i64 0,.slice A ops.length c,.int .i64 q.l,.bool q.d,.int .u8 q.f]:=rfl
 all_goals(
  rw[hc]
  clear hc
  go_enter Tryz.func110,Tryz.ntmps110
  go_upto_region 2 with(go_at_call 53;refine(zn ((HW.out.alloc _).alloc _) (ay (by simp)) (by omega) (by decide) (by decide) (by omega)).mono ?_;rintro e1 w1 ⟨rfl,wr1,wt1⟩)
  have hh1:w1.heap[W.heap.size]? =some (.cells _ tJm (0,0)):=jg (dA (ay rfl)) wt1 (by omega) (by decide)
  have HT1:=Lib.hid ((dO (dO (Wrote.refl tU b W) (afk hlt) _) (by simp;omega) _).trans wt1)
  have hHb:W.heap.size≠b:=by omega
  generalize W.heap.size=H at *
  have q:=qg.of hh1
  simp only[qg,aia,agJ]at q
  obtain⟨q0,q1,q2,q3,q4,q5,q6,q7,q8,q9,q10,q11,q12⟩:=q
  have HR1:=Lib.hid wr1
  have HH1:=Lib.hid hh1
  have hlt1:=wr1.lt
  clear wr1 wt1 hh1)
 ·go_upto_region 10 with(go_at_call 53;refine(adx (HR1.out.alloc _) (ay rfl) (by omega) (by omega) (by omega) (by omega) (by omega) (by rw[aeL];omega)).mono ?_;rintro e w2 ⟨rfl,wr2,wt2⟩)
  have hh2:=jg (dA HH1.out) wt2 hHb (by decide)
  have HT2:=Lib.hid ((dO HT1.out (afk hlt1) _).trans wt2)
  have q:=qg.of hh2
  simp only[qg,aia,agJ]at q
  obtain⟨q0,q1,q2,q3,q4,q5,q6,q7,q8,q9,q10,q11,q12⟩:=q
  have HR2:=Lib.hid wr2
  have HH2:=Lib.hid hh2
  have hlt2:=wr2.lt
  clear wr2 wt2 hh2
  go_upto_region 11 with(go_at_call 168;refine(a4S HR2.out (HS.out _ HT2.out) HO.out (by omega) (by simp only[aeL];omega)).mono ?_;rintro e w3 ⟨rfl,wr3,wt3⟩)
  have hh3:=jg HH2.out wt3 hHb (by decide)
  have HT3:=Lib.hid (HT2.out.trans wt3)
  have q:=qg.of hh3
  simp only[qg,aia,agJ]at q
  obtain⟨q0,q1,q2,q3,q4,q5,q6,q7,q8,q9,q10,q11,q12⟩:=q
  have HR3:=Lib.hid wr3
  have HH3:=Lib.hid hh3
  have hlt3:=wr3.lt
  clear wr3 wt3 hh3
  go_upto_region 12 with(go_at_call 166;refine(Rt HR3.out HQ.out (by simp only[aeL];omega)).mono ?_;rintro e w4 ⟨rfl,wr4,wt4⟩)
  have hh4:=jg HH3.out wt4 hHb (by decide)
  have HT4:=Lib.hid (HT3.out.trans wt4)
  have q:=qg.of hh4
  simp only[qg,aia,agJ]at q
  obtain⟨q0,q1,q2,q3,q4,q5,q6,q7,q8,q9,q10,q11,q12⟩:=q
  have HR4:=Lib.hid wr4
  have HH4:=Lib.hid hh4
  have hlt4:=wr4.lt
  clear wr4 wt4 hh4
  go_wp2_with (go_at_call 53;refine(zn (HR4.out.alloc _) (ay rfl) (by omega) (by omega) (by omega) (by simp only[aeL];omega)).mono ?_;rintro e w5 ⟨rfl,wr5,wt5⟩)
  go_end0
  exact⟨rfl,by simpa[JmV.b,af9]using wr5,(dO HT4.out (afk hlt4) _).trans wt5⟩
 iterate 2
  focus
   go_wp2_with fail
   go_end0
   exact⟨rfl,by simpa[JmV.b]using HR1.out,HT1.out⟩
 ·go_upto_region 7 with(go_at_call 168;refine(a9I (HR1.out.alloc _) (by rw[HO.out.2];exact ay rfl) (by omega) HO.out.1 (by rw[aeL];omega)).mono ?_;rintro e w2 ⟨rfl,wr2,wt2⟩)
  have hh2:=jg (dA HH1.out) wt2 hHb (by decide)
  have HT2:=Lib.hid ((dO HT1.out (afk hlt1) _).trans wt2)
  have q:=qg.of hh2
  simp only[qg,aia,agJ]at q
  obtain⟨q0,q1,q2,q3,q4,q5,q6,q7,q8,q9,q10,q11,q12⟩:=q
  have HR2:=Lib.hid wr2
  have HH2:=Lib.hid hh2
  have hlt2:=wr2.lt
  clear wr2 wt2 hh2
  go_wp2_with (go_at_call 53;refine(adx (HR2.out.alloc _) (ay rfl) (by omega) (by omega) (by omega) (by omega) (by omega) (by simp only[aeL];omega)).mono ?_;rintro e w3 ⟨rfl,wr3,wt3⟩)
  go_end0
  exact⟨rfl,by simpa[JmV.b,af9]using wr3,(dO HT2.out (afk hlt2) _).trans wt3⟩
 ·go_wp2_with (go_at_call 53;refine(zn (HR1.out.alloc _) (ay rfl) (by omega) (by omega) (by omega) (by rw[aeL];omega)).mono ?_;rintro e w2 ⟨rfl,wr2,wt2⟩)
  go_end0
  exact⟨rfl,by simpa[JmV.b,af9]using wr2,(dO HT1.out (afk hlt1) _).trans wt2⟩
