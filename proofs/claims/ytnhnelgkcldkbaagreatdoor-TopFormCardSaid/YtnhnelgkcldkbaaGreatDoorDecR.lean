/- decode: operands. decode: rvalues. -/
import Derived.Test.YtnhnelgkcldkbaaGreatDoorDecB
set_option linter.all false
set_option maxHeartbeats 8000000
set_option maxRecDepth 100000
namespace Go.Proofs.YtnhnelgkcldkbaaGreatDoor
namespace enc
open Go.RowKit Am loan bld
theorem fH {vs:List Value}(h:vs.all (·.oneCell')=true):∀u∈vs,u.oneCell'=true:=λu hu=>aeV.1 h u hu
theorem PlV.one (p:PlV):∀u∈p.c,u.oneCell'=true:=fH (by simp[PlV.c,Value.oneCell'])
theorem OpV.one (a:OpV):∀u∈a.c,u.oneCell'=true:=by cases a<;>exact fH (by simp[OpV.c,Value.oneCell'])
theorem Bx.const {w0:World}{r:Nat}{A:Option Addr}{c:Nat}{xs:List Int}{T:TypeId}{W1:World}{cs:List Value}{i j:Nat}{W:World}(h:Bx w0 r A c xs T W1 cs i W)(h0:w0.heap.size<=r)(o:Nat)(v:Value):Bx w0 r A c xs T W1 (cs.set o v) j (((W.setCell ⟨W1.heap.size,o,none⟩ v).setCell ⟨r,1,none⟩ (.int .i64 (j:Nat))).setCell ⟨r,2,none⟩ (.int .i64 0)):=by
 have k:=h.set o v
 have h1:=heap_setCell_same _ r 1 _ _ (.int .i64 (j:Nat)) k.rd.x
 have h2:=heap_setCell_same _ r 2 _ _ (.int .i64 0) h1
 have hr:=h.rl
 generalize W.setCell ⟨W1.heap.size,o,none⟩ v=w2 at *
 have hk:∀k,k≠r->((w2.setCell ⟨r,1,none⟩ (.int .i64 (j:Nat))).setCell ⟨r,2,none⟩ (.int .i64 0)).heap[k]? =w2.heap[k]? :=λk hk=>by rw[ahM _ ⟨r,2,none⟩ k _ hk,ahM _ ⟨r,1,none⟩ k _ hk]
 exact⟨⟨(k.rd.b.setCell (p:=⟨r,1,none⟩) h0 _).setCell (p:=⟨r,2,none⟩) h0 _,h2⟩,k.kp.trans ⟨by simp[World.setCell],λi _ hi=>hk i hi⟩,(hk _ (by omega)).trans k.bx,hr,h.w0⟩
theorem EP {w0:World}{r:Nat}{A:Option Addr}{c:Nat}{xs:List Int}(hI:Inp w0 r A c xs){i:Nat}{W:World}(hR:Rd w0 r A c xs i W){a:OpV}(ha:a.ok)(hA:At xs i a.b):
  Calls Tryz.prog 204 #[.pointer (some ⟨r,0,none⟩)] W (Got w0 r A c xs (i+a.b.length) W (.agg a.c.toArray)):=by
 have HI:=Lib.hid hI
 have HR:=Lib.hid hR
 have hlt:=hR.lt
 have h0:=hI.r
 have hbs:=hR.b.size
 have hml:=hI.most
 have HRA:=Lib.hid ((Kp.refl r W.heap.size W).alloc (aeM _) (.cells zO.toArray 59 (0,0)))
 rcases a with n|⟨m,q⟩
 ·obtain⟨n0,n1⟩:-9223372036854775808<=n/\n<=9223372036854775807:=ha
  obtain⟨hf0,hf1⟩:=Num.wQ n n0 n1
  have hA1:At xs i (Num.put 1):=hA.left
  have hA2:At xs (i+(Num.put 1).length) (Num.put (Num.fold n)):=hA.right
  have hget:=hA2.get hf0 hf1
  have hil:=hA2.le
  have H1:=Lib.hid (λ(W1:World) (hR1:Rd w0 r A c xs i W1)=>lG HI.out hR1 (n:=1) (lo:=1) (hi:=3) hA1 (by decide) (by decide) (by decide) (by decide))
  generalize hj:i+(Num.put 1).length=j at *
  have HJ:=Lib.hid (show i+(OpV.k n).b.length=j+(Num.put (Num.fold n)).length from by show i+(Num.put 1++Num.put (Num.fold n)).length=_;rw[aeL];omega)
  rw[HJ.out]
  have HG:=Lib.hid (λ(W1:World) (hb:Below w0.heap.size w0 W1)=>Ko A c w0.heap.size xs (j:Nat) W1 (hI.row.below hb (aeM _)) hI.byt hI.cap (by omega) (by omega) (by omega))
  rw[hget]at HG
  simp only[Num.YB]at HG
  generalize j+(Num.put (Num.fold n)).length=l at *
  clear hA hA1 hA2 hget hI hR hj HJ hil
  go_enter Tryz.func204,Tryz.ntmps204
  go_upto_region 2 with(first |(go_at_call 201;refine(H1.out _ (HR.out.alloc _)).mono ?_;rintro e w1 ⟨rfl,rd1,kp1⟩)|(refine Bx.new rfl rfl 59 _ _ rfl 59 zO [.int .u8 1,.int .i64 0,.int .i64 0,.bool false,.int .u8 0] rd1 rfl rfl rfl Ar (fH rfl) (λw2 bx2=>?_)))
  have HKP:=Lib.hid (HRA.out.trans (kp1.mono (by simp)))
  have HRS:=Lib.hid (kp1.at (k:=W.heap.size) (by simp) (by omega) (ay rfl))
  have HHn:=Lib.hid (show W.heap.size<w1.heap.size from by have:=kp1.size;simp at this;omega)
  clear rd1 kp1
  have q0:=bx2.cell 0 rfl
  obtain⟨y0,y1,y2⟩:=bx2.rd.cells
  go_upto_region 6 with fail
  clear q0 y0 y1 y2
  refine bH [⟨r,0,none⟩,⟨r,1,none⟩] [(0,true),(1,true),(2,true),(3,true),(4,true),(5,true),(6,true),(7,true),(8,false),(9,true),(10,true),(11,true),(12,true),(13,true),(14,true),(15,true)] (by kernel_rfl) (by kernel_rfl) (by decide) (by kernel_rfl) (λ_ _ _ _ _ h=>h) ?_
  have HB:=Lib.hid (show Bx w0 r A c xs 59 w1 [.int .u8 1,.int .i64 0,.int .i64 0,.bool false,.int .u8 0] j w2.drew from⟨⟨bx2.rd.b.drew,bx2.rd.x⟩,⟨bx2.kp.size,bx2.kp.blk⟩,bx2.bx,bx2.rl,bx2.w0⟩)
  clear bx2
  generalize w2.drew=wd at *
  obtain⟨y0,y1,y2⟩:=HB.out.rd.cells
  iterate 8 (refine SeqC.take (v:=?_) rfl (by rfl) (λW hW=>?_) ?_;rotate_left;(focus(have zy0:=hW.get (by simp) y0;have zy1:=hW.get (by simp) y1;go_simp;with_reducible rfl));simp only[Act.put,aeJ,aeP,aeO])
  refine SeqC.call (f:=?_) (args:=?_) rfl (by rfl) ?_ ?_
  rotate_left 2
  ·(go_simp;first |with_reducible rfl|(refine⟨?_,?_⟩<;>with_reducible rfl))
  refine(HG.out _ HB.out.rd.b).mono ?_
  rintro e w2 ⟨rfl,rfl⟩
  refine⟨_,rfl,Cells.refl _ _,?_⟩
  simp only[Act.put,aeJ,aeP,aeO]
  iterate 7 (refine SeqC.take (v:=?_) rfl (by rfl) (λW hW=>?_) ?_;rotate_left;(focus(go_simp;with_reducible rfl));simp only[Act.put,aeJ,aeP,aeO])
  refine SeqC.done ?_
  have f0:wd.frozen? ⟨w1.heap.size,1,none⟩=false:=HB.out.fz 1
  have f1:wd.frozen? ⟨r,1,none⟩=false:=Lib.frozen_of_heap HB.out.rd.x 1
  have f2:wd.frozen? ⟨r,2,none⟩=false:=Lib.frozen_of_heap HB.out.rd.x 2
  have z1:=HB.out.cell 1 rfl
  have kB:=HB.out.set 1 (.int .i64 n)
  have x1:=heap_setCell_same _ r 1 _ _ (.int .i64 (l:Nat)) kB.rd.x
  have z2:=kB.rd.cells.2.1
  have z3:((wd.setCell ⟨w1.heap.size,1,none⟩ (.int .i64 n)).setCell ⟨r,1,none⟩ (.int .i64 (l:Nat))).cell? ⟨r,2,none⟩=some (.int .i64 0):=by rw[Lib.cell_of_heap x1];rfl
  have f3:(wd.setCell ⟨w1.heap.size,1,none⟩ (.int .i64 n)).frozen? ⟨r,1,none⟩=false:=Lib.frozen_of_heap kB.rd.x 1
  have f4:((wd.setCell ⟨w1.heap.size,1,none⟩ (.int .i64 n)).setCell ⟨r,1,none⟩ (.int .i64 (l:Nat))).frozen? ⟨r,2,none⟩=false:=Lib.frozen_of_heap x1 2
  clear kB x1
  have HBC:=Lib.hid (HB.out.const (j:=l) h0 1 (.int .i64 n))
  go_upto_region 8 with fail
  clear f0 f1 f2 f3 f4 z1 z2 z3 y0 y1 y2
  go_wp2_with (first |(refine ahQ rfl 59 _ rfl w1.heap.size rfl 59 _ (0,0) _ HBC.out.bx Tryz.underlying59 rfl Ar ?_)|(refine ahU rfl 59 _ _ rfl W.heap.size _ rfl rfl 59 _ ((HBC.out.kp.blk _ HHn.out (by omega)).trans HRS.out) Ar rfl (ahb.2 (by simp[Value.oneCell'])) ?_))
  have hh9:=ai9 _ W.heap.size _ #[.int .u8 1,.int .i64 n,.int .i64 0,.bool false,.int .u8 0] 59 _ ((HBC.out.kp.blk _ HHn.out (by omega)).trans HRS.out)
  refine ahP (ahN rfl _ _ W.heap.size 59 #[.int .u8 1,.int .i64 n,.int .i64 0,.bool false,.int .u8 0] (0,0) _ rfl hh9 Tryz.underlying59 rfl Ar) rfl ?_
  exact HBC.out.fin HKP.out hlt hbs (aeM _) _ rfl
 ·have hm:1<=kdM m/\kdM m<=3/\(kdM m==1)=false:=by cases m<;>decide
  obtain⟨m1,m3,mne⟩:=hm
  have hA1:At xs i (Num.put (kdM m)):=hA.left
  have hA2:At xs (i+(Num.put (kdM m)).length) q.b:=hA.right
  have H1:=Lib.hid (λ(W1:World) (hR1:Rd w0 r A c xs i W1)=>lG HI.out hR1 (n:=kdM m) (lo:=1) (hi:=3) hA1 (by decide) m1 m3 (by decide))
  generalize hj:i+(Num.put (kdM m)).length=j at *
  have HJ:=Lib.hid (show i+(OpV.p m q).b.length=j+q.b.length from by show i+(Num.put (kdM m)++q.b).length=_;rw[aeL];omega)
  rw[HJ.out]
  have H2:=Lib.hid (λ(W1:World) (hR1:Rd w0 r A c xs j W1)=>SK HI.out hR1 (p:=q) ha hA2)
  generalize j+q.b.length=l at *
  have HQ:=Lib.hid (show(OpV.p m q).c=[.int .u8 (kdM m),.int .i64 0]++(q.c++[])from by simp[OpV.c,PlV.c])
  have h3:q.c.length=3:=rfl
  have H4:=Lib.hid q.one
  rw[HQ.out]
  generalize q.c=qc at *
  generalize kdM m=km at *
  clear hA hA1 hA2 hI hR hj HJ HQ ha
  go_enter Tryz.func204,Tryz.ntmps204
  go_upto_region 2 with(first |(go_at_call 201;refine(H1.out _ (HR.out.alloc _)).mono ?_;rintro e w1 ⟨rfl,rd1,kp1⟩)|(refine Bx.new rfl rfl 59 _ _ rfl 59 zO [.int .u8 km,.int .i64 0,.int .i64 0,.bool false,.int .u8 0] rd1 rfl rfl rfl Ar (fH rfl) (λw2 bx2=>?_)))
  have HKP:=Lib.hid (HRA.out.trans (kp1.mono (by simp)))
  have HRS:=Lib.hid (kp1.at (k:=W.heap.size) (by simp) (by omega) (ay rfl))
  have HHn:=Lib.hid (show W.heap.size<w1.heap.size from by have:=kp1.size;simp at this;omega)
  clear rd1 kp1
  have q0:=bx2.cell 0 rfl
  have HB2:=Lib.hid bx2
  clear bx2
  go_upto_region 4 with(first |(go_at_call 202;refine(H2.out _ HB2.out.rd).mono ?_;rintro e w3 ⟨rfl,rd3,kp3⟩)|(refine Bx.put rfl rfl 57 _ _ rfl (HB2.out.call rd3 kp3) 2 qc rfl rfl (by rw[h3];simp) (by rw[h3];exact plR) H4.out (λw4 bx4=>?_)))
  rw[h3]at bx4
  have HBC:=Lib.hid (show Bx w0 r A c xs 59 w1 ([Value.int .u8 km,.int .i64 0]++(qc++[])) l w4 from bx4)
  clear bx4 q0 rd3 kp3
  go_wp2_with (first |(refine ahQ rfl 59 _ rfl w1.heap.size rfl 59 _ (0,0) _ HBC.out.bx Tryz.underlying59 rfl (by rw[afw];simp only[aeL,h3];exact Ar) ?_)|(refine ahU rfl 59 _ _ rfl W.heap.size _ rfl rfl 59 _ ((HBC.out.kp.blk _ HHn.out (by omega)).trans HRS.out) (by rw[afw];simp only[aeL,h3];exact Ar) (by simp[h3]) (ahb.2 (by simp[Value.oneCell'];intro u hu;exact H4.out u hu)) ?_))
  have hh9:=ai9 _ W.heap.size _ ([Value.int .u8 km,.int .i64 0]++(qc++[])).toArray 59 _ ((HBC.out.kp.blk _ HHn.out (by omega)).trans HRS.out)
  refine ahP (ahN rfl _ _ W.heap.size 59 ([Value.int .u8 km,.int .i64 0]++(qc++[])).toArray (0,0) _ rfl hh9 Tryz.underlying59 rfl (by rw[afw];simp only[aeL,h3];exact Ar)) rfl ?_
  exact HBC.out.fin HKP.out hlt hbs (aeM _) _ rfl
theorem Bx.mid {P:Program}{ops:Array Oper}{rest:List Oper}{op:Oper}{a:Act}{W:World}{Q:Exit->Act->World->Prop}{w0:World}{r:Nat}{A:Option Addr}{c:Nat}{xs:List Int}{T:TypeId}{W1:World}{i:Nat}(hgd:op.guard=none)(hd:op.dst=none)(ty:TypeId)(x y:Operand)(ho:op.op=.store ty x y)(p o v q:List Value)(h:Bx w0 r A c xs T W1 (p++(o++q)) i W)
  (n:Nat) (hn:p.length=n) (hov:o.length=v.length) (hx:a.eval x=.pointer (some ⟨W1.heap.size,n,none⟩)) (hy:a.eval y=.agg v.toArray) (hi:(P.info? ty).map (·.size)=some v.length) (h1:∀u∈v,u.oneCell'=true)
  (k:∀W',Bx w0 r A c xs T W1 (p++(v++q)) i W'->wpList P ops Q rest a W'):wpList P ops Q (op::rest) a W:=by
 refine Bx.put hgd hd ty x y ho h n v hx hy (by simp only[aeL];omega) hi h1 λW' b=>k W' ?_
 have e1:(p++(o++q)).take n=p:=by rw[<-hn];exact List.take_left
 have e2:(p++(o++q)).drop (n+v.length)=q:=by rw[<-hn,<-hov,<-af9,<-aeL];exact List.drop_left
 rwa[e1,e2]at b
theorem Bx.a9M {P:Program}{ops:Array Oper}{rest:List Oper}{op:Oper}{a:Act}{W:World}{Q:Exit->Act->World->Prop}{w0:World}{r:Nat}{A:Option Addr}{c:Nat}{xs:List Int}{T:TypeId}{W1:World}{i:Nat}(hgd:op.guard=none)(hd:op.dst=none)(ty:TypeId)(x y:Operand)(ho:op.op=.store ty x y)(p m o v q:List Value)(h:Bx w0 r A c xs T W1 (p++(m++(o++q))) i W)
  (n:Nat) (hn:p.length+m.length=n) (hov:o.length=v.length) (hx:a.eval x=.pointer (some ⟨W1.heap.size,n,none⟩)) (hy:a.eval y=.agg v.toArray) (hi:(P.info? ty).map (·.size)=some v.length) (h1:∀u∈v,u.oneCell'=true)
  (k:∀W',Bx w0 r A c xs T W1 (p++(m++(v++q))) i W'->wpList P ops Q rest a W'):wpList P ops Q (op::rest) a W:=
 Bx.mid hgd hd ty x y ho (p++m) o v q (by rw[af9];exact h) n (by rw[aeL];exact hn) hov hx hy hi h1 λW' b=>k W' (by rw[af9]at b;exact b)
theorem PlV.OB (q:PlV):q.c.length=3:=rfl
theorem OpV.GK (a:OpV):a.c.length=5:=by cases a<;>rfl
theorem bG {l k:List Value}(h1:∀u∈l,u.oneCell'=true)(h2:∀u∈k,u.oneCell'=true):∀u∈l++k,u.oneCell'=true:=λu hu=>(afl.1 hu).elim (h1 u) (h2 u)
theorem Bx.out {P:Program}{ops:Array Oper}{rest:List Oper}{op:Oper}{a:Act}{W:World}{Q:Exit->Act->World->Prop}{w0:World}{r:Nat}{A:Option Addr}{c:Nat}{xs:List Int}{T:TypeId}{W1:World}{cs:List Value}{i:Nat}(hgd:op.guard=none)(hd:op.dst=none)(ty:TypeId)(x y:Operand)(ho:op.op=.store ty x y)(h:Bx w0 r A c xs T W1 cs i W)(H:Nat)(hH:H<W1.heap.size)(hHr:H≠r)
  (z:List Value) (T':TypeId) (hz:W1.heap[H]? =some (.cells z.toArray T' (0,0))) (hl:z.length=cs.length) (hx:a.eval x=.pointer (some ⟨H,0,none⟩)) (hy:a.eval y=.agg cs.toArray) (hi:(P.info? ty).map (·.size)=some cs.length) (h1:∀u∈cs,u.oneCell'=true)
  (k:(W.setRow H cs.toArray).heap[H]? =some (.cells cs.toArray T' (0,0))->wpList P ops Q rest a (W.setRow H cs.toArray)):wpList P ops Q (op::rest) a W:=by
 have hz':=(h.kp.blk _ hH hHr).trans hz
 refine ahU hgd ty x y ho H cs.toArray hx hy T' _ hz' (by rw[afw];exact hi) (by rw[afw,afw];exact hl) (all_oneCell_toArray h1) ?_
 rw[hd]
 exact k (ai9 _ H _ _ T' _ hz')
theorem Qk:(Tryz.prog.info? 61).map (·.size)=some 16:=by kernel_rfl
theorem acn {w0:World}{r:Nat}{A:Option Addr}{c:Nat}{xs:List Int}(hI:Inp w0 r A c xs){i:Nat}{W:World}(hR:Rd w0 r A c xs i W){v:RvV}(hv:v.ok)(hA:At xs i v.b):
  Calls Tryz.prog 203 #[.pointer (some ⟨r,0,none⟩)] W (Got w0 r A c xs (i+v.b.length) W (.agg v.c.toArray)):=by
 have HI:=Lib.hid hI
 have HR:=Lib.hid hR
 have hlt:=hR.lt
 have h0:=hI.r
 have hbs:=hR.b.size
 have HRA:=Lib.hid ((Kp.refl r W.heap.size W).alloc (aeM _) (.cells zR.toArray 61 (0,0)))
 clear hI hR
 rcases v with a|⟨o,a,b⟩|⟨a,b⟩|⟨o,q⟩|q
 have hA0:At xs i (Num.put 1++(a.b)):=hA
 have hB1:=hA0.left
 have hA1:=hA0.right
 have hB2:=hA1
 have H1:=Lib.hid (λ(W1:World) (hR1:Rd w0 r A c xs (i) W1)=>lG HI.out hR1 (n:=1) (lo:=1) (hi:=5) hB1 (by decide) (by decide) (by decide) (by decide))
 have H2:=Lib.hid (λ(W1:World) (hR1:Rd w0 r A c xs (i+(Num.put 1).length) W1)=>EP HI.out hR1 (a:=a) hv hB2)
 have HJ:=Lib.hid (show i+(RvV.use a).b.length=i+(Num.put 1).length+(a.b).length from by show i+(Num.put 1++(a.b)).length=_;simp only[aeL];omega)
 rw[HJ.out]
 generalize i+(Num.put 1).length=j1 at *
 generalize j1+(a.b).length=l at *
 clear hA hA0 hB1 hB2 hA1 HJ
 show Calls _ _ _ _ (Got w0 r A c xs l W (.agg ([Value.int .u8 1,.int .u8 0,.int .u8 0]++(a.c++(zO++zP))).toArray))
 have acl:a.c.length=5:=OpV.GK a
 have aco:=Lib.hid a.one
 generalize a.c=ac at *
 clear hv
 obtain⟨kd,ek⟩:∃kd:Int,kd=1:=⟨_,rfl⟩
 rotate_left
 obtain⟨o0,o1,hva,hvb⟩:=hv
 have hA0:At xs i (Num.put 2++(Num.put o++(a.b++(b.b)))):=hA
 have hB1:=hA0.left
 have hA1:=hA0.right
 have hB2:=hA1.left
 have hA2:=hA1.right
 have hB3:=hA2.left
 have hA3:=hA2.right
 have hB4:=hA3
 have H1:=Lib.hid (λ(W1:World) (hR1:Rd w0 r A c xs (i) W1)=>lG HI.out hR1 (n:=2) (lo:=1) (hi:=5) hB1 (by decide) (by decide) (by decide) (by decide))
 have H2:=Lib.hid (λ(W1:World) (hR1:Rd w0 r A c xs (i+(Num.put 2).length) W1)=>lG HI.out hR1 (n:=o) (lo:=1) (hi:=6) hB2 (by decide) o0 o1 (by decide))
 have H3:=Lib.hid (λ(W1:World) (hR1:Rd w0 r A c xs (i+(Num.put 2).length+(Num.put o).length) W1)=>EP HI.out hR1 (a:=a) hva hB3)
 have H4:=Lib.hid (λ(W1:World) (hR1:Rd w0 r A c xs (i+(Num.put 2).length+(Num.put o).length+(a.b).length) W1)=>EP HI.out hR1 (a:=b) hvb hB4)
 have HJ:=Lib.hid (show i+(RvV.bin o a b).b.length=i+(Num.put 2).length+(Num.put o).length+(a.b).length+(b.b).length from by show i+(Num.put 2++(Num.put o++(a.b++(b.b)))).length=_;simp only[aeL];omega)
 rw[HJ.out]
 generalize i+(Num.put 2).length=j1 at *
 generalize j1+(Num.put o).length=j2 at *
 generalize j2+(a.b).length=j3 at *
 generalize j3+(b.b).length=l at *
 clear hA hA0 hB1 hB2 hB3 hB4 hA1 hA2 hA3 HJ
 show Calls _ _ _ _ (Got w0 r A c xs l W (.agg ([Value.int .u8 2,.int .u8 o,.int .u8 0]++(a.c++(b.c++zP))).toArray))
 have acl:a.c.length=5:=OpV.GK a
 have aco:=Lib.hid a.one
 generalize a.c=ac at *
 have bcl:b.c.length=5:=OpV.GK b
 have bco:=Lib.hid b.one
 generalize b.c=bc at *
 clear hva hvb
 obtain⟨kd,ek⟩:∃kd:Int,kd=2:=⟨_,rfl⟩
 rotate_left
 obtain⟨hva,hvb⟩:=hv
 have hA0:At xs i (Num.put 3++(a.b++(b.b))):=hA
 have hB1:=hA0.left
 have hA1:=hA0.right
 have hB2:=hA1.left
 have hA2:=hA1.right
 have hB3:=hA2
 have H1:=Lib.hid (λ(W1:World) (hR1:Rd w0 r A c xs (i) W1)=>lG HI.out hR1 (n:=3) (lo:=1) (hi:=5) hB1 (by decide) (by decide) (by decide) (by decide))
 have H2:=Lib.hid (λ(W1:World) (hR1:Rd w0 r A c xs (i+(Num.put 3).length) W1)=>EP HI.out hR1 (a:=a) hva hB2)
 have H3:=Lib.hid (λ(W1:World) (hR1:Rd w0 r A c xs (i+(Num.put 3).length+(a.b).length) W1)=>EP HI.out hR1 (a:=b) hvb hB3)
 have HJ:=Lib.hid (show i+(RvV.two a b).b.length=i+(Num.put 3).length+(a.b).length+(b.b).length from by show i+(Num.put 3++(a.b++(b.b))).length=_;simp only[aeL];omega)
 rw[HJ.out]
 generalize i+(Num.put 3).length=j1 at *
 generalize j1+(a.b).length=j2 at *
 generalize j2+(b.b).length=l at *
 clear hA hA0 hB1 hB2 hB3 hA1 hA2 HJ
 show Calls _ _ _ _ (Got w0 r A c xs l W (.agg ([Value.int .u8 3,.int .u8 0,.int .u8 0]++(a.c++(b.c++zP))).toArray))
 have acl:a.c.length=5:=OpV.GK a
 have aco:=Lib.hid a.one
 generalize a.c=ac at *
 have bcl:b.c.length=5:=OpV.GK b
 have bco:=Lib.hid b.one
 generalize b.c=bc at *
 clear hva hvb
 obtain⟨kd,ek⟩:∃kd:Int,kd=3:=⟨_,rfl⟩
 rotate_left
 obtain⟨o0,o1,hvq⟩:=hv
 have hA0:At xs i (Num.put 4++(Num.put o++(q.b))):=hA
 have hB1:=hA0.left
 have hA1:=hA0.right
 have hB2:=hA1.left
 have hA2:=hA1.right
 have hB3:=hA2
 have H1:=Lib.hid (λ(W1:World) (hR1:Rd w0 r A c xs (i) W1)=>lG HI.out hR1 (n:=4) (lo:=1) (hi:=5) hB1 (by decide) (by decide) (by decide) (by decide))
 have H2:=Lib.hid (λ(W1:World) (hR1:Rd w0 r A c xs (i+(Num.put 4).length) W1)=>lG HI.out hR1 (n:=o) (lo:=1) (hi:=3) hB2 (by decide) o0 o1 (by decide))
 have H3:=Lib.hid (λ(W1:World) (hR1:Rd w0 r A c xs (i+(Num.put 4).length+(Num.put o).length) W1)=>SK HI.out hR1 (p:=q) hvq hB3)
 have HJ:=Lib.hid (show i+(RvV.ref o q).b.length=i+(Num.put 4).length+(Num.put o).length+(q.b).length from by show i+(Num.put 4++(Num.put o++(q.b))).length=_;simp only[aeL];omega)
 rw[HJ.out]
 generalize i+(Num.put 4).length=j1 at *
 generalize j1+(Num.put o).length=j2 at *
 generalize j2+(q.b).length=l at *
 clear hA hA0 hB1 hB2 hB3 hA1 hA2 HJ
 show Calls _ _ _ _ (Got w0 r A c xs l W (.agg (([Value.int .u8 4,.int .u8 0,.int .u8 o]++(zO++zO))++(q.c++[])).toArray))
 have qcl:q.c.length=3:=PlV.OB q
 have qco:=Lib.hid q.one
 generalize q.c=qc at *
 clear hvq
 obtain⟨kd,ek⟩:∃kd:Int,kd=4:=⟨_,rfl⟩
 rotate_left
 have hA0:At xs i (Num.put 5++(q.b)):=hA
 have hB1:=hA0.left
 have hA1:=hA0.right
 have hB2:=hA1
 have H1:=Lib.hid (λ(W1:World) (hR1:Rd w0 r A c xs (i) W1)=>lG HI.out hR1 (n:=5) (lo:=1) (hi:=5) hB1 (by decide) (by decide) (by decide) (by decide))
 have H2:=Lib.hid (λ(W1:World) (hR1:Rd w0 r A c xs (i+(Num.put 5).length) W1)=>SK HI.out hR1 (p:=q) hv hB2)
 have HJ:=Lib.hid (show i+(RvV.raw q).b.length=i+(Num.put 5).length+(q.b).length from by show i+(Num.put 5++(q.b)).length=_;simp only[aeL];omega)
 rw[HJ.out]
 generalize i+(Num.put 5).length=j1 at *
 generalize j1+(q.b).length=l at *
 clear hA hA0 hB1 hB2 hA1 HJ
 show Calls _ _ _ _ (Got w0 r A c xs l W (.agg (([Value.int .u8 5,.int .u8 0,.int .u8 0]++(zO++zO))++(q.c++[])).toArray))
 have qcl:q.c.length=3:=PlV.OB q
 have qco:=Lib.hid q.one
 generalize q.c=qc at *
 clear hv
 obtain⟨kd,ek⟩:∃kd:Int,kd=5:=⟨_,rfl⟩
 rotate_left
 all_goals(
  go_enter Tryz.func203,Tryz.ntmps203
  go_upto_region 2 with(first |(go_at_call 201;refine(H1.out _ (HR.out.alloc _)).mono ?_;rintro e w1 ⟨rfl,rd1,kp1⟩)|(refine Bx.new rfl rfl 61 _ _ rfl 61 zR (.int .u8 kd::zR.tail) rd1 rfl rfl (by rw[ek];rfl) Qk (fH rfl) (λw2 bx2=>?_)))
  have HKP:=Lib.hid (HRA.out.trans (kp1.mono (by simp)))
  have HRS:=Lib.hid (kp1.at (k:=W.heap.size) (by simp) (by omega) (ay rfl))
  have HHn:=Lib.hid (show W.heap.size<w1.heap.size from by have:=kp1.size;simp at this;omega)
  clear rd1 kp1
  subst kd
  have q0:=bx2.cell 0 rfl
  have HB2:=Lib.hid bx2
  clear bx2)
 focus
  go_upto_region 16 with(first |(go_at_call 204;refine(H2.out _ HB2.out.rd).mono ?_;rintro e w3 ⟨rfl,rd3,kp3⟩)|(refine Bx.mid rfl rfl 59 _ _ rfl [.int .u8 1,.int .u8 0,.int .u8 0] zO ac (zO++zP) (HB2.out.call rd3 kp3) 3 (by first |rfl|simp[acl]) (by rw[acl];rfl) rfl rfl (by rw[acl];exact Ar) aco.out (λw4 bx4=>?_)))
  clear rd3 kp3
  have HBC:=Lib.hid (show Bx w0 r A c xs 61 w1 ([Value.int .u8 1,.int .u8 0,.int .u8 0]++(ac++(zO++zP))) l w4 from bx4)
  have HLN:([Value.int .u8 1,.int .u8 0,.int .u8 0]++(ac++(zO++zP))).length=16:=by simp[acl,zO,zP]
  have HON:=Lib.hid (show ∀u∈([Value.int .u8 1,.int .u8 0,.int .u8 0]++(ac++(zO++zP))),u.oneCell'=true from bG (fH rfl) (bG aco.out (fH rfl)))
  clear bx4 q0
 rotate_left
 focus
  go_upto_region 8 with(go_at_call 201;refine(H2.out _ HB2.out.rd).mono ?_;rintro e w3 ⟨rfl,rd3,kp3⟩;have b3:=HB2.out.call rd3 kp3;have fz3:=b3.fz 1;have ce3:=b3.cell 1 rfl)
  have b4:=b3.set 1 (.int .u8 o)
  have HB4:=Lib.hid b4
  clear b3 b4 fz3 ce3 rd3 kp3 q0
  generalize w3.setCell _ _=w4 at *
  go_upto_region 9 with(first |(go_at_call 204;refine(H3.out _ HB4.out.rd).mono ?_;rintro e w5 ⟨rfl,rd5,kp5⟩)|(refine Bx.mid rfl rfl 59 _ _ rfl [.int .u8 2,.int .u8 o,.int .u8 0] zO ac (zO++zP) (HB4.out.call rd5 kp5) 3 (by first |rfl|simp[acl]) (by rw[acl];rfl) rfl rfl (by rw[acl];exact Ar) aco.out (λw6 bx6=>?_)))
  have HB6:=Lib.hid bx6
  clear bx6 rd5 kp5
  go_upto_region 16 with(first |(go_at_call 204;refine(H4.out _ HB6.out.rd).mono ?_;rintro e w7 ⟨rfl,rd7,kp7⟩)|(refine Bx.a9M rfl rfl 59 _ _ rfl [.int .u8 2,.int .u8 o,.int .u8 0] ac zO bc zP (HB6.out.call rd7 kp7) 8 (by rw[acl];rfl) (by rw[bcl];rfl) rfl rfl (by rw[bcl];exact Ar) bco.out (λw8 bx8=>?_)))
  clear rd7 kp7
  have HBC:=Lib.hid (show Bx w0 r A c xs 61 w1 ([Value.int .u8 2,.int .u8 o,.int .u8 0]++(ac++(bc++zP))) l w8 from bx8)
  have HLN:([Value.int .u8 2,.int .u8 o,.int .u8 0]++(ac++(bc++zP))).length=16:=by simp[acl,bcl,zP]
  have HON:=Lib.hid (show ∀u∈([Value.int .u8 2,.int .u8 o,.int .u8 0]++(ac++(bc++zP))),u.oneCell'=true from bG (fH rfl) (bG aco.out (bG bco.out (fH rfl))))
  clear bx8
 rotate_left
 focus
  go_upto_region 12 with(first |(go_at_call 204;refine(H2.out _ HB2.out.rd).mono ?_;rintro e w5 ⟨rfl,rd5,kp5⟩)|(refine Bx.mid rfl rfl 59 _ _ rfl [.int .u8 3,.int .u8 0,.int .u8 0] zO ac (zO++zP) (HB2.out.call rd5 kp5) 3 (by first |rfl|simp[acl]) (by rw[acl];rfl) rfl rfl (by rw[acl];exact Ar) aco.out (λw6 bx6=>?_)))
  have HB6:=Lib.hid bx6
  clear bx6 rd5 kp5 q0
  go_upto_region 16 with(first |(go_at_call 204;refine(H3.out _ HB6.out.rd).mono ?_;rintro e w7 ⟨rfl,rd7,kp7⟩)|(refine Bx.a9M rfl rfl 59 _ _ rfl [.int .u8 3,.int .u8 0,.int .u8 0] ac zO bc zP (HB6.out.call rd7 kp7) 8 (by rw[acl];rfl) (by rw[bcl];rfl) rfl rfl (by rw[bcl];exact Ar) bco.out (λw8 bx8=>?_)))
  clear rd7 kp7
  have HBC:=Lib.hid (show Bx w0 r A c xs 61 w1 ([Value.int .u8 3,.int .u8 0,.int .u8 0]++(ac++(bc++zP))) l w8 from bx8)
  have HLN:([Value.int .u8 3,.int .u8 0,.int .u8 0]++(ac++(bc++zP))).length=16:=by simp[acl,bcl,zP]
  have HON:=Lib.hid (show ∀u∈([Value.int .u8 3,.int .u8 0,.int .u8 0]++(ac++(bc++zP))),u.oneCell'=true from bG (fH rfl) (bG aco.out (bG bco.out (fH rfl))))
  clear bx8
 rotate_left
 focus
  go_upto_region 15 with(go_at_call 201;refine(H2.out _ HB2.out.rd).mono ?_;rintro e w3 ⟨rfl,rd3,kp3⟩;have b3:=HB2.out.call rd3 kp3;have fz3:=b3.fz 2;have ce3:=b3.cell 2 rfl)
  have b4:=b3.set 2 (.int .u8 o)
  have HB4:=Lib.hid b4
  clear b3 b4 fz3 ce3 rd3 kp3 q0
  generalize w3.setCell _ _=w4 at *
  go_upto_region 16 with(first |(go_at_call 202;refine(H3.out _ HB4.out.rd).mono ?_;rintro e w5 ⟨rfl,rd5,kp5⟩)|(refine Bx.mid rfl rfl 57 _ _ rfl ([.int .u8 4,.int .u8 0,.int .u8 o]++(zO++zO)) zP qc [] (HB4.out.call rd5 kp5) 13 (by first |rfl|simp[qcl]) (by rw[qcl];rfl) rfl rfl (by rw[qcl];exact plR) qco.out (λw6 bx6=>?_)))
  clear rd5 kp5
  have HBC:=Lib.hid (show Bx w0 r A c xs 61 w1 (([Value.int .u8 4,.int .u8 0,.int .u8 o]++(zO++zO))++(qc++[])) l w6 from bx6)
  have HLN:(([Value.int .u8 4,.int .u8 0,.int .u8 o]++(zO++zO))++(qc++[])).length=16:=by simp[qcl,zO]
  have HON:=Lib.hid (show ∀u∈(([Value.int .u8 4,.int .u8 0,.int .u8 o]++(zO++zO))++(qc++[])),u.oneCell'=true from bG (fH rfl) (bG qco.out (fH rfl)))
  clear bx6
 rotate_left
 focus
  go_upto_region 16 with(first |(go_at_call 202;refine(H2.out _ HB2.out.rd).mono ?_;rintro e w5 ⟨rfl,rd5,kp5⟩)|(refine Bx.mid rfl rfl 57 _ _ rfl ([.int .u8 5,.int .u8 0,.int .u8 0]++(zO++zO)) zP qc [] (HB2.out.call rd5 kp5) 13 (by first |rfl|simp[qcl]) (by rw[qcl];rfl) rfl rfl (by rw[qcl];exact plR) qco.out (λw6 bx6=>?_)))
  clear rd5 kp5
  have HBC:=Lib.hid (show Bx w0 r A c xs 61 w1 (([Value.int .u8 5,.int .u8 0,.int .u8 0]++(zO++zO))++(qc++[])) l w6 from bx6)
  have HLN:(([Value.int .u8 5,.int .u8 0,.int .u8 0]++(zO++zO))++(qc++[])).length=16:=by simp[qcl,zO]
  have HON:=Lib.hid (show ∀u∈(([Value.int .u8 5,.int .u8 0,.int .u8 0]++(zO++zO))++(qc++[])),u.oneCell'=true from bG (fH rfl) (bG qco.out (fH rfl)))
  clear bx6 q0
 rotate_left
 all_goals(
  go_wp2_with (first |(refine ahQ rfl 61 _ rfl w1.heap.size rfl 61 _ (0,0) _ HBC.out.bx Tryz.underlying61 rfl (by rw[afw,HLN];exact Qk) ?_)|(refine HBC.out.out rfl rfl 61 _ _ rfl W.heap.size HHn.out (by omega) zR 61 HRS.out (by rw[HLN];rfl) rfl rfl (by rw[HLN];exact Qk) HON.out (λhh9=>?_)))
  refine ahP (ahN rfl _ _ W.heap.size 61 _ (0,0) _ rfl hh9 Tryz.underlying61 rfl (by rw[afw,HLN];exact Qk)) rfl ?_
  exact HBC.out.fin HKP.out hlt hbs (aeM _) _ rfl)
