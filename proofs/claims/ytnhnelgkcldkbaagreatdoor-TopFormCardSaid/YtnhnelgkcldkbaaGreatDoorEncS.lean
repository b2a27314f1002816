/- encode: functions behind what a writer holds. -/
import Derived.Test.YtnhnelgkcldkbaaGreatDoorEncT
set_option linter.all false
set_option maxHeartbeats 16000000
set_option maxRecDepth 100000
namespace Go.Proofs.YtnhnelgkcldkbaaGreatDoor
namespace enc
open Go.RowKit Am loan bld
open txt (jE oU qN QH yX kQ jT bR sR jR tFn tBk)
theorem uq {n:Int}(h:n<128):(Num.put n).length=1:=by rw[Num.KE n h];rfl
theorem PlV.len1 {p:PlV}(h:p.ok):p.b.length=1:=by
 obtain⟨l,d,f⟩:=p
 obtain⟨h0,h1,h2,h3⟩:=h
 simp only at h0 h1 h2 h3
 unfold PlV.b PlV.n
 exact uq (by cases d<;>simp<;>omega)
theorem OpV.Ju {a:OpV}(h:a.ok):a.b.length<=12:=by
 cases a with
 |k n=>have:=uq (n:=1) (by decide);have:=dw (Num.fold n);simp only[OpV.b,aeL];omega
 |p m q=>have:=PlV.len1 (p:=q) h;have:=uq (n:=kdM m) (by cases m<;>decide);simp only[OpV.b,aeL];omega
theorem RvV.a3V {r:RvV}(h:r.ok):r.b.length<=26:=by
 cases r with
 |use a=>have:=uq (n:=1) (by decide);have:=OpV.Ju (a:=a) h;simp only[RvV.b,aeL];omega
 |bin o a b=>have:=uq (n:=2) (by decide);have:=uq (n:=o) (by have:=h.2.1;omega);have:=OpV.Ju h.2.2.1;have:=OpV.Ju h.2.2.2;simp only[RvV.b,aeL];omega
 |two a b=>have:=uq (n:=3) (by decide);have:=OpV.Ju h.1;have:=OpV.Ju h.2;simp only[RvV.b,aeL];omega
 |ref o q=>have:=uq (n:=4) (by decide);have:=uq (n:=o) (by have:=h.2.1;omega);have:=PlV.len1 h.2.2;simp only[RvV.b,aeL];omega
 |raw q=>have:=uq (n:=5) (by decide);have:=PlV.len1 (p:=q) h;simp only[RvV.b,aeL];omega
theorem StV.acF {s:StV}(h:s.ok):s.b.length<=28:=by
 cases s with
 |asg q r=>have:=uq (n:=1) (by decide);have:=PlV.len1 h.1;have:=RvV.a3V h.2;simp only[StV.b,aeL];omega
 |one m a=>have:=uq (n:=kdO m) (by cases m<;>decide);have:=OpV.Ju (a:=a) h;simp only[StV.b,aeL];omega
 |fresh l=>have:=uq (n:=3) (by decide);have:=dw l;simp only[StV.b,aeL];omega
theorem JmV.aag {j:JmV}{ops:List OpV}(h:j.ok ops):(j.b ops).length<=200:=by
 cases j with
 |go n=>have:=dw 1;have:=dw n;simp only[JmV.b,aeL];omega
 |br a n e=>have:=dw 2;have:=dw n;have:=dw e;have:=a.len;simp only[JmV.b,aeL];omega
 |ret=>have:=dw 3;simp only[JmV.b];omega
 |abort=>have:=dw 5;simp only[JmV.b];omega
 |call f q n=>
  have:=dw 4;have:=dw f;have:=dw n;have:=dw (ops.length:Nat);have:=q.len
  have h8:=h.2.2.2.1
  have:=oP OpV.b 12 ops λx hx=>OpV.Ju (h.2.2.2.2 x hx)
  simp only[JmV.b,aeL,wX]
  omega
theorem XZ {ss:List StV}(h:∀s∈ss,s.ok):(Kz ss).length<=28*ss.length:=oP StV.b 28 ss λx hx=>StV.acF (h x hx)
theorem BlV.aad {b:BlV}(h:b.ok):b.b.length<=900:=by
 have:=dw (b.ss.length:Nat);have:=XZ h.s;have:=JmV.aag h.j;have:=h.n
 simp only[BlV.b,aeL];omega
theorem XB {bs:List BlV}(h:∀b∈bs,b.ok):(FM bs).length<=900*bs.length:=oP BlV.b 900 bs λx hx=>BlV.aad (h x hx)
theorem FnV.acD {v:FnV}(h:v.ok):v.b.length<=22000:=by
 have:=dw v.p;have:=dw (uN v.u);have:=dw (v.ls.length:Nat);have:=dw (v.bs.length:Nat);have:=Xa h.l1;have:=XB h.bs;have:=h.b1
 simp only[FnV.b,aeL];omega
theorem Eo:jE.all (λp=>wZ (.t [.s (.int .i64 (tyN p)),.s (.int .i64 0)]) (QH 37 p))=true:=by kernel_rfl
theorem UN {p:Nat×Nat}(h:p∈jE)(W:World):Calls Tryz.prog 37 #[.agg (oU p).toArray] W (bld.Ans W (.tuple #[.int .i64 (tyN p),.int .i64 0])):=by
 refine(yX W (aeV.1 Eo p h)).mono ?_
 rintro e w' ⟨u,rfl,⟨r,us,rfl,hu⟩,hb⟩
 match us,hu with
 |[x,y],⟨h1,h2,_⟩=>
  refine⟨?_,hb⟩
  rw[show x=.int .i64 (tyN p)from h1,show y=.int .i64 0 from h2]
theorem a9V:∀p∈jE,0<=tyN p/\tyN p<=7:=by decide
structure JU (b X:Nat)(D:FnD)(lv bv:Value)(w W0:World)(acc:List Int)(W:World):Prop where
 o:Below w.heap.size w W
 x:Box W X tFn (.int .i64 D.p) (.bool D.u) lv bv
 w:Wr b acc W
 t:Wrote tU b W0 W
theorem JU.wr {b X:Nat}{D:FnD}{lv bv:Value}{w W0 W W':World}{acc acc':List Int}(h:JU b X D lv bv w W0 acc W)(hX:X≠b)(hb:w.heap.size<=b)(k:Wr b acc' W')(wt:Wrote tU b W W'):JU b X D lv bv w W0 acc' W':=
 ⟨h.o.trans (wt.bel.mono hb),wt.block h.x hX (by decide),k,h.t.trans wt⟩
theorem JU.alloc {b X:Nat}{D:FnD}{lv bv:Value}{w W0 W:World}{acc:List Int}(h:JU b X D lv bv w W0 acc W)(o:Obj):JU b X D lv bv w W0 acc (W.alloc o):=
 ⟨h.o.alloc h.o.size o,h.x.more,h.w.alloc o,dO h.t (afk h.w.lt) o⟩
theorem Xq {α β γ:Type}{f:α->β}{g:γ->β}{xs:List α}{cs:List γ}{i:Nat}{x:α}(e:xs.map f=cs.map g)(h:xs[i]? =some x):∃y,cs[i]? =some y/\f x=g y:=by
 have h1:(xs.map f)[i]? =some (f x):=by rw[aeT,h];rfl
 rw[e,aeT]at h1
 cases hc:cs[i]? with
 |none=>rw[hc]at h1;cases h1
 |some y=>rw[hc]at h1;exact⟨y,rfl,(afE h1).symm⟩
theorem C9 {α β γ:Type}{f:α->β}{g:γ->β}{xs:List α}{cs:List γ}(e:xs.map f=cs.map g):xs.length=cs.length:=by
 have:=congrArg List.length e
 rwa[af4,af4]at this
theorem ac2 {w W:World}{v:Value}{D:FnD}{V:FnV}(hF:aZ w v D)(hV:V.ok)(hc:D.core=V.core){b:Nat}{acc:List Int}(hb:w.heap.size<=b)(hW:Below w.heap.size w W)(hR:Wr b acc W)(hl:acc.length<=200000):
  Calls Tryz.prog 54 #[.pointer (some ⟨b,0,none⟩),v] W (FD b (acc++V.b) W):=by
 have hp:D.p=V.p:=congrArg FnD.p hc
 have hu:D.u=V.u:=congrArg FnD.u hc
 have hls:D.ls=V.ls.map oU:=congrArg FnD.ls hc
 have hbs:D.bs.map bU.core=V.bs.map BlV.core:=congrArg FnD.bs hc
 have nl:D.ls.length=V.ls.length:=by rw[hls,af4]
 have nb:D.bs.length=V.bs.length:=C9 hbs
 obtain⟨A,c,eb,hmb,hrb⟩:=aZ.blks hF
 obtain⟨Al,cl,el,hml,hrl⟩:=bT.rows hF.locals (by decide)
 obtain⟨gb,ob,rfl,hgb,hrb⟩:=kQ hrb (by rw[af4,nb];exact hV.b0)
 obtain⟨gl,ol,rfl,hgl,hrl⟩:=kQ hrl (by rw[nl];exact hV.l0)
 have hnl:=hV.l1
 have hnb:=hV.b1
 obtain⟨hp0,hp1⟩:=hV.p
 rw[hF.eq,eb,el]
 have HN0:=Lib.hid (show JU b W.heap.size D (.slice (some ⟨gl,ol,none⟩) D.ls.length cl) (.slice (some ⟨gb,ob,none⟩) D.bs.length c) w W acc (W.alloc (.cells #[.int .i64 D.p,.bool D.u,(.slice (some ⟨gl,ol,none⟩) D.ls.length cl),(.slice (some ⟨gb,ob,none⟩) D.bs.length c)] tFn))from
  ⟨hW.alloc hW.size _,Box.mk rfl,hR.alloc _,dO (Wrote.refl _ _ _) (afk hR.lt) _⟩)
 have hXb:W.heap.size≠b:=by have:=hR.lt;omega
 have HF:=Lib.hid hF
 have HV:=Lib.hid hV
 have HLS:=Lib.hid hls
 have HBS:=Lib.hid hbs
 have HRB:=Lib.hid hrb
 have HRL:=Lib.hid hrl
 have HP:=Lib.hid (And.intro hp hu)
 have HNL:=Lib.hid nl
 have HNB:=Lib.hid nb
 have hnl2:D.ls.length<=16:=by omega
 have hnb2:D.bs.length<=24:=by omega
 have hpD:0<=D.p/\D.p<=8:=by rw[hp];exact⟨hp0,hp1⟩
 obtain⟨hpd0,hpd1⟩:=hpD
 have HA:=Lib.hid (show V.b=(Num.put D.p++(Num.put (uN D.u)++Num.put (D.ls.length:Nat)))++(DT V.ls++(Num.put (D.bs.length:Nat)++FM V.bs))from by unfold FnV.b;rw[hp,hu,nl,nb];simp only[af9])
 clear hF hV hc hls hbs hrb hrl eb el hR hW hp hu nl nb hp0 hp1 hmb hml hnl hnb
 generalize hu:D.u=u
 have HU:=Lib.hid hu
 clear hu
 go_enter Tryz.func54,Tryz.ntmps54
 go_upto_region 1 with fail
 generalize W.heap.size=X at *
 rw[HU.out]at HN0
 generalize W.alloc (.cells #[.int .i64 D.p,.bool u,(.slice (some ⟨gl,ol,none⟩) D.ls.length cl),(.slice (some ⟨gb,ob,none⟩) D.bs.length c)] tFn)=w1 at *
 obtain⟨y0,y1,y2,y3⟩:=HN0.out.x.cells
 rw[HU.out]at y1
 go_upto_if 14 with fail
 go_cut [4] (λs4 wx=>s4=.int .i64 (uN u)/\wx=w1)
 case first=>
  cases u
  ·go_wp2_with fail
   go_meet
   exact⟨rfl,rfl⟩
  ·go_wp2_with fail
   go_meet
   exact⟨rfl,rfl⟩
 obtain⟨rfl,rfl⟩:=hcut
 obtain rfl:=HU.out
 have hu01:0<=uN D.u/\uN D.u<=1:=by cases D.u<;>decide
 obtain⟨hu0,hu1⟩:=hu01
 have hlb:=HN0.out.w.lt
 go_upto_region 5 with(go_at_call 53;refine(aex (HN0.out.w.alloc _) (ay rfl) (by omega) hpd0 (by omega) hu0 (by omega) (by omega) (by omega) (by omega)).mono ?_;rintro e w2 ⟨rfl,wr2,wt2⟩)
 have HN1:=Lib.hid ((HN0.out.alloc _).wr hXb hb wr2 wt2)
 have hpl0:=dw D.p
 have hpl1:=dw (uN D.u)
 have hpl2:=dw (D.ls.length:Nat)
 have hac:(acc++(Num.put D.p++(Num.put (uN D.u)++Num.put (D.ls.length:Nat)))).length<=200100:=by simp only[aeL];omega
 generalize hA0:acc++(Num.put D.p++(Num.put (uN D.u)++Num.put (D.ls.length:Nat)))=a0 at *
 have HA0:=Lib.hid hA0
 clear hA0 hpl0 hpl1 hpl2 y0 y1 y2 y3 wr2 wt2 HN0 hl hu0 hu1 hlb
 obtain⟨y0,y1,y2,y3⟩:=HN1.out.x.cells
 go_wp2_with fail
 clear y0 y1 y2 y3
 go_loopg [29] D.ls.length (λg s29 w8=>∃i:Nat,s29=.int .i64 i/\i<=D.ls.length/\g=D.ls.length-i/\JU b X D (.slice (some ⟨gl,ol,none⟩) D.ls.length cl) (.slice (some ⟨gb,ob,none⟩) D.bs.length c) w W (a0++DT (V.ls.take i)) w8)
 case atStart=>exact⟨0,rfl,afb _,rfl,by simpa[DT]using HN1.out⟩
 case round=>
  clear HN1
  obtain⟨i,rfl,hi,rfl,hnow⟩:=hrel
  have HNT:=Lib.hid hnow
  clear hnow
  have h0I:(0:Int)<=(i:Int):=afa _
  have hty:(a0++DT (V.ls.take i)).length<=200300:=by
   have:=Xa (ls:=V.ls.take i) (by rw[afu];have:=HNL.out;omega)
   rw[aeL];omega
  rcases afp i D.ls.length with hlt|hge
  ·have hltI:(i:Int)<(D.ls.length:Int):=by omega
   obtain⟨p,hpi⟩:∃p,V.ls[i]? =some p:=⟨_,aeK (by have:=HNL.out;omega)⟩
   have hp8:=HV.out.ls p (aeY hpi)
   have hrng:=jT (HRL.out i (oU p) (by rw[HLS.out,aeT,hpi];rfl)) hgl HNT.out.o
   have HCD:=Lib.hid (UN hp8)
   obtain⟨t0,t1⟩:=a9V p hp8
   have HTK:=Lib.hid (show DT (V.ls.take (i+1))=DT (V.ls.take i)++Num.put (tyN p)from by unfold DT;exact vg _ hpi)
   obtain⟨pk,pm⟩:=p
   have p0:wr.cell? ⟨gl,ol+i*2,none⟩=some (.int .u8 (pk:Nat)):=hrng 0 _ rfl
   have p1:wr.cell? ⟨gl,ol+i*2+1,none⟩=some (.int .u8 (pm:Nat)):=hrng 1 _ rfl
   generalize tyN (pk,pm)=ty at *
   have hlb:=HNT.out.w.lt
   clear hrng hpi hp8
   go_upto_region 9 with(go_at_call 37;refine(HCD.out _).mono ?_;rintro e w8 ⟨rfl,b8⟩)
   have HN8:=Lib.hid ((HNT.out.alloc _).wr hXb hb ((HNT.out.w.alloc _).below b8) (Wrote.of_below b8 (by simp;omega)))
   have hlb8:=HN8.out.w.lt
   clear p0 p1 b8
   go_wp2_with (go_at_call 53;refine(zn (HN8.out.w.alloc _) (ay rfl) (by omega) t0 (by omega) (by omega)).mono ?_;rintro e w9 ⟨rfl,wr9,wt9⟩)
   have HN9:=Lib.hid ((HN8.out.alloc _).wr hXb hb wr9 wt9)
   clear wr9 wt9
   go_roundg (D.ls.length-(i+1))
   case measure=>omega
   case rel=>exact⟨i+1,by simp,by omega,rfl,by rw[HTK.out,<-af9];exact HN9.out⟩
  ·obtain rfl:i=D.ls.length:=by omega
   rw[show V.ls.take D.ls.length=V.ls from by rw[HNL.out,afq]]at HNT hty
   obtain⟨y0,y1,y2,y3⟩:=HNT.out.x.cells
   have hlb:=HNT.out.w.lt
   go_upto_region 12 with(go_at_call 53;refine(zn (HNT.out.w.alloc _) (ay rfl) (by omega) (by omega) (by omega) (by omega)).mono ?_;rintro e w2 ⟨rfl,wr2,wt2⟩)
   have HN2:=Lib.hid ((HNT.out.alloc _).wr hXb hb wr2 wt2)
   have hpl:=dw (D.bs.length:Nat)
   have hac2:((a0++DT V.ls)++Num.put (D.bs.length:Nat)).length<=200400:=by rw[aeL];omega
   generalize hA1:(a0++DT V.ls)++Num.put (D.bs.length:Nat)=a1 at *
   have HA1:=Lib.hid hA1
   clear hA1 y0 y1 y2 y3 wr2 wt2 hpl hty hlb HNT
   obtain⟨y0,y1,y2,y3⟩:=HN2.out.x.cells
   go_wp2_with fail
   clear y0 y1 y2 y3
   go_loopg [52] D.bs.length (λg s52 w8=>∃i:Nat,s52=.int .i64 i/\i<=D.bs.length/\g=D.bs.length-i/\JU b X D (.slice (some ⟨gl,ol,none⟩) D.ls.length cl) (.slice (some ⟨gb,ob,none⟩) D.bs.length c) w W (a1++FM (V.bs.take i)) w8)
   case atStart=>exact⟨0,rfl,afb _,rfl,by simpa[FM]using HN2.out⟩
   case round=>
    clear HN2
    obtain⟨i,rfl,hi2,rfl,hnow⟩:=hrel
    have HNT:=Lib.hid hnow
    clear hnow
    have h0I2:(0:Int)<=(i:Int):=afa _
    have hbl:(a1++FM (V.bs.take i)).length<=222100:=by
     have:=XB (bs:=V.bs.take i) (λx hx=>HV.out.bs x (afW hx))
     rw[afu]at this
     have:=HV.out.b1
     rw[aeL];omega
    rcases afp i D.bs.length with hlt|hge2
    ·have hltI:(i:Int)<(D.bs.length:Int):=by omega
     obtain⟨x,hx⟩:∃x,D.bs[i]? =some x:=⟨_,aeK hlt⟩
     have hxm:=aeY hx
     have hbk:=HF.out.blk x hxm
     obtain⟨y,hy,hxy⟩:=Xq HBS.out hx
     have hyok:=HV.out.bs y (aeY hy)
     obtain⟨As,cs,es,hms,hrs⟩:=jV.KD hbk
     obtain⟨Ao,co,eo,hmo,hro⟩:=bT.rows hbk.opl (by decide)
     have hcb:=jT (HRB.out i x.cells (by rw[aeT,hx];rfl)) hgb HNT.out.o
     have hbl14:=nZ hbk
     have hb1:=xH hbk
     have epre:x.pre=y.j.pre:=congrArg bU.pre hxy
     have epost:x.post=y.j.post:=congrArg bU.post hxy
     have est:x.st=y.ss.map StV.c:=congrArg bU.st hxy
     have eops:x.ops=y.ops.map OpV.c:=congrArg bU.ops hxy
     have ns:x.st.length=y.ss.length:=by rw[est,af4]
     have no:x.ops.length=y.ops.length:=by rw[eops,af4]
     have h24:=hyok.n
     have hsto:(storeCells ⟨wr.heap.size,0,none⟩ x.cells).run Tryz.prog (wr.alloc (.cells #[.slice none 0 0,.int .u8 0,.int .u8 0,.int .i64 0,.int .i64 0,.bool false,.int .u8 0,.int .i64 0,.int .i64 0,.int .i64 0,.slice none 0 0,.int .i64 0,.bool false,.int .u8 0] 99))=.ok () (wr.alloc (.cells x.cells.toArray 99)):=kK rfl (by rw[hbl14];rfl) hb1
     have HTK:=Lib.hid (show FM (V.bs.take (i+1))=FM (V.bs.take i)++y.b from by unfold FM;exact vg _ hy)
     have HCB:=Lib.hid hcb
     have HES:=Lib.hid es
     have HEO:=Lib.hid eo
     have HRS:=Lib.hid hrs
     have HRO:=Lib.hid hro
     have HBK:=Lib.hid hbk
     have HY:=Lib.hid hyok
     have HEQ:=Lib.hid (And.intro epre (And.intro epost (And.intro est eops)))
     have HNS:=Lib.hid ns
     have HNO:=Lib.hid no
     have h24b:x.st.length<=24:=by omega
     clear hcb es eo hrs hro hbk hyok hx hy hxy hxm epre epost est eops ns no h24 hms hmo
     go_upto_region 15 with(first |(refine wpList_load_mid rfl tBk _ rfl gb (ob+i*14) rfl x.cells _ HCB.out Tryz.underlying99 rfl (by rw[hbl14];exact bR) ?_)|(refine rP rfl tBk _ _ rfl rfl _ _ (by simp) x.cells.toArray rfl rfl tBk _ (by rw[afw,hbl14];exact bR) (by rw[afw,hbl14];rfl) (by simpa using hb1) ?_))
     have hz:(wr.alloc (.cells x.cells.toArray tBk)).heap[wr.heap.size]? =some (.cells x.cells.toArray tBk (0,0)):=ay rfl
     have HNZ:=Lib.hid (HNT.out.alloc (.cells x.cells.toArray tBk))
     have hZb:wr.heap.size≠b:=by have:=HNT.out.w.lt;omega
     clear hsto HNT HCB
     generalize wr.heap.size=Z at *
     generalize wr.alloc (.cells x.cells.toArray tBk)=wz at *
     have hlb:=HNZ.out.w.lt
     have q5:wz.cell? ⟨Z,0,none⟩=some (.slice As x.st.length cs):=by rw[ahF wz Z 0 _ tBk (0,0) hz,<-HES.out];rfl
     have HZ:=Lib.hid hz
     clear hz
     go_upto_region 16 with(go_at_call 53;refine(zn (HNZ.out.w.alloc _) (ay rfl) (by omega) (by omega) (by omega) (by omega)).mono ?_;rintro e w8 ⟨rfl,wr8,wt8⟩)
     have HN8:=Lib.hid ((HNZ.out.alloc _).wr hXb hb wr8 wt8)
     have hz8:=jg (dA HZ.out) wt8 hZb (by decide)
     have hpl:=dw (x.st.length:Nat)
     have hac3:((a1++FM (V.bs.take i))++Num.put (x.st.length:Nat)).length<=222200:=by rw[aeL];omega
     generalize hA2:(a1++FM (V.bs.take i))++Num.put (x.st.length:Nat)=a2 at *
     have HA2:=Lib.hid hA2
     clear hA2 q5 wr8 wt8 HNZ HZ hpl hbl hlb
     have q5:w8.cell? ⟨Z,0,none⟩=some (.slice As x.st.length cs):=by rw[ahF w8 Z 0 _ tBk (0,0) hz8,<-HES.out];rfl
     have HZ8:=Lib.hid hz8
     clear hz8
     go_wp2_with fail
     clear q5
     go_loopg [65] x.st.length (λg s65 w9=>∃k:Nat,s65=.int .i64 k/\k<=x.st.length/\g=x.st.length-k/\JU b X D (.slice (some ⟨gl,ol,none⟩) D.ls.length cl) (.slice (some ⟨gb,ob,none⟩) D.bs.length c) w W (a2++Kz (y.ss.take k)) w9/\w9.heap[Z]? =some (.cells x.cells.toArray tBk (0,0)))
     case atStart=>exact⟨0,rfl,afb _,rfl,by simpa[Kz]using HN8.out,HZ8.out⟩
     case round=>
      clear HN8 HZ8
      obtain⟨k,rfl,hk,rfl,hnow,hz9⟩:=hrel
      have HNT:=Lib.hid hnow
      have HZ9:=Lib.hid hz9
      clear hnow hz9
      have h0K:(0:Int)<=(k:Int):=afa _
      have hsl:(a2++Kz (y.ss.take k)).length<=223000:=by
       have:=XZ (ss:=y.ss.take k) (λs hs=>HY.out.s s (afW hs))
       rw[afu]at this
       have:=HY.out.n
       rw[aeL];omega
      rcases afp k x.st.length with hkl|hkg
      ·have hklI:(k:Int)<(x.st.length:Int):=by omega
       obtain⟨s,hs⟩:∃s,y.ss[k]? =some s:=⟨_,aeK (by have:=HNS.out;omega)⟩
       have hsok:=HY.out.s s (aeY hs)
       have hel:x.st[k]? =some s.c:=by rw[HEQ.out.2.2.1,aeT,hs];rfl
       have hkk:=HBK.out.skd s.c (aeY hel)
       obtain⟨gs,os,eS,hgs,hrng⟩:=(HRS.out.below HNT.out.o) k s.c hel
       subst eS
       have h26:s.c.length=26:=hkk.len.symm
       have h1s:=xM hkk
       have HRN:=Lib.hid hrng
       have HTS:=Lib.hid (show Kz (y.ss.take (k+1))=Kz (y.ss.take k)++s.b from by unfold Kz;exact vg _ hs)
       have HSO:=Lib.hid hsok
       have HSB:=Lib.hid (show s.b=s.b from rfl)
       generalize hsc:s.c=el at *
       have HSC:=Lib.hid hsc
       have hsto2:(storeCells ⟨wr.heap.size,0,none⟩ el).run Tryz.prog (wr.alloc (.cells #[.int .u8 0,.int .i64 0,.bool false,.int .u8 0,.int .u8 0,.int .u8 0,.int .u8 0,.int .u8 0,.int .i64 0,.int .i64 0,.bool false,.int .u8 0,.int .u8 0,.int .i64 0,.int .i64 0,.bool false,.int .u8 0,.int .i64 0,.bool false,.int .u8 0,.int .u8 0,.int .i64 0,.int .i64 0,.bool false,.int .u8 0,.int .i64 0] 63))=.ok () (wr.alloc (.cells el.toArray 63)):=kK rfl (by rw[h26];rfl) h1s
       clear hrng hel hkk hs hsok hsc
       go_upto_region 19 with(refine wpList_load_mid rfl tSt _ rfl gs (os+k*26) rfl el _ HRN.out Tryz.underlying63 rfl (by rw[h26];exact stR) ?_)
       have hre:(wr.alloc (.cells el.toArray tSt)).rangeAt wr.heap.size 0 el:=λj u hj=>by
        rw[afK,ahF _ wr.heap.size j _ tSt (0,0) (ay rfl)]
        simpa using hj
       have HRE:=Lib.hid hre
       have HNY:=Lib.hid (HNT.out.alloc (.cells el.toArray tSt))
       have HZY:=Lib.hid (dA (o:=.cells el.toArray tSt) HZ9.out)
       clear hre hsto2 HNT HRN HZ9
       generalize wr.heap.size=Y at *
       generalize wr.alloc (.cells el.toArray tSt)=wy at *
       have HSW:=Lib.hid (show Calls Tryz.prog 109 #[.pointer (some ⟨b,0,none⟩),.agg el.toArray] wy (FD b ((a2++Kz (y.ss.take k))++s.b) wy)from by rw[<-HSC.out];exact ads HNY.out.w HSO.out (by omega))
       go_wp2_with (first |(refine wpList_load_mid rfl tSt _ rfl Y 0 rfl el _ HRE.out Tryz.underlying63 rfl (by rw[h26];exact stR) ?_)|(go_at_call 109;refine HSW.out.mono ?_;rintro e w9 ⟨rfl,wr9,wt9⟩))
       have HN9:=Lib.hid (HNY.out.wr hXb hb wr9 wt9)
       have HZ9:=Lib.hid (jg HZY.out wt9 hZb (by decide))
       clear wr9 wt9
       go_roundg (x.st.length-(k+1))
       case measure=>omega
       case rel=>exact⟨k+1,by simp,by omega,rfl,by rw[HTS.out,<-af9];exact HN9.out,HZ9.out⟩
      ·obtain rfl:k=x.st.length:=by omega
       rw[show y.ss.take x.st.length=y.ss from by rw[HNS.out,afq]]at HNT hsl
       have hjc:x.pre++x.a::x.post=y.j.pre++Value.slice Ao y.ops.length co::y.j.post:=by rw[HEQ.out.1,HEQ.out.2.1,HEO.out,HNO.out]
       have hj13:(y.j.pre++Value.slice Ao y.ops.length co::y.j.post).length=13:=by
        rw[<-hjc]
        have:=nZ HBK.out
        unfold bU.cells at this
        rw[afi]at this
        omega
       have hrj:wr.rangeAt Z 1 (y.j.pre++Value.slice Ao y.ops.length co::y.j.post):=EH (X:=[x.s]) (Z:=[]) HZ9.out (by rw[<-hjc,aft];rfl)
       have HRJ:=Lib.hid hrj
       have HOPS:=Lib.hid (show y8 wr b Ao 5 (y.ops.map OpV.c)from by rw[<-HEQ.out.2.2.2];exact y8.of_below HRO.out hb HNT.out.o)
       have HJW:=Lib.hid (abW HNT.out.w HY.out.j HOPS.out (c:=co) (by omega))
       clear hjc hrj
       go_wp2_with (first |(refine wpList_load_mid rfl tJm _ rfl Z 1 rfl (y.j.pre++Value.slice Ao y.ops.length co::y.j.post) _ HRJ.out Tryz.underlying81 rfl (by rw[hj13];exact jR) ?_)|(go_at_call 110;refine HJW.out.mono ?_;rintro e w9 ⟨rfl,wr9,wt9⟩))
       have HN9:=Lib.hid (HNT.out.wr hXb hb wr9 wt9)
       clear wr9 wt9
       go_roundg (D.bs.length-(i+1))
       case measure=>omega
       case rel=>
        refine⟨i+1,by simp,by omega,rfl,?_⟩
        have:=HN9.out
        rw[<-HA2.out]at this
        rw[HTK.out]
        unfold BlV.b
        rw[<-HNS.out]
        simpa[af9]using this
    ·obtain rfl:i=D.bs.length:=by omega
     rw[show V.bs.take D.bs.length=V.bs from by rw[HNB.out,afq]]at HNT
     go_wp2_with fail
     go_end0
     refine⟨rfl,?_,HNT.out.t⟩
     have:=HNT.out.w
     rw[<-HA1.out,<-HA0.out]at this
     rw[HA.out]
     simpa[af9]using this
