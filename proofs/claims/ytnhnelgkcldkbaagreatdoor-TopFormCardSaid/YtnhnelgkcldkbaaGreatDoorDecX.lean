/- shape.Of, at the eight types: closed runs. decode: functions. From what decode's function answers to a function that is there (FnOk'). In plain words. -/
import Derived.Test.YtnhnelgkcldkbaaGreatDoorDecG
set_option linter.all false
set_option maxHeartbeats 8000000
set_option maxRecDepth 100000
namespace Go.Proofs.YtnhnelgkcldkbaaGreatDoor
namespace enc
open Go.RowKit Am loan bld
open txt (jE oU a5O qN)
noncomputable abbrev acR (n:Int):R:=@runs Know.nought (oq Tryz.prog) (pJ Tryz.prog) wW 12 8 36 [.s (.int .i64 n)] ⟨[],0⟩ 0
theorem a7d:jE.all (λp=>wZ (.t [.g (a5O p),.s (.int .i64 0)]) (acR (tyN p)))=true:=by kernel_rfl
theorem adI {p:Nat×Nat}(hp:p∈jE)(w:World):Calls Tryz.prog 36 #[.int .i64 (tyN p)] w (bld.Ans w (.tuple #[.agg (oU p).toArray,.int .i64 0])):=by
 have ok:=aC.nought (λ_=>0) (λ_=>[])
 letI:Base:=vC w ok
 have hS:=sK ok (@mY w _ _ _ ok) 12 8
 have h:=aeV.1 a7d p hp
 cases hr:acR (tyN p)with
 |none=>rw[hr]at h;cases h
 |some q=>
  obtain⟨v',h'⟩:=q
  rw[hr]at h
  have hv:=V.kG (show V.same v' _=true from h)
  subst hv
  refine(je w (afb _) (λk hk=>absurd hk (ag7 k)) hS (args:=[.s (.int .i64 (tyN p))]) (vs:=[.int .i64 (tyN p)]) ⟨rfl,trivial⟩ hr).mono ?_
  rintro e w' ⟨u,r',rfl,⟨us,rfl,hu⟩,hb⟩
  match us,hu with
  |[x,y],hu=>
   obtain⟨h1,h2,_⟩:=hu
   obtain⟨zs,e1,hz⟩:=h1
   match zs,hz with
   |[a,b],hz=>
    obtain⟨ha,hb',_⟩:=hz
    refine⟨?_,hb⟩
    rw[e1,show a=.int .u8 p.1 from ha,show b=.int .u8 p.2 from hb',show y=.int .i64 0 from h2]
    rfl
open txt (jE oU)
theorem a6X:∀p∈jE,0<=tyN p/\tyN p<=7:=by decide
theorem a7G:(Tryz.prog.info? 40).map (·.size)=some 4:=by kernel_rfl
theorem a7o:(Tryz.prog.info? 88).map (·.size)=some 2:=by kernel_rfl
theorem Rd.below {w0:World}{r:Nat}{A:Option Addr}{c:Nat}{xs:List Int}{i:Nat}{W W':World}(h:Rd w0 r A c xs i W)(b:Below W.heap.size W W'):Rd w0 r A c xs i W':=⟨h.b.trans (b.mono h.b.size),(b.block r h.lt).trans h.x⟩
theorem Kp.below {r n:Nat}{x y z:World}(k:Kp r n x y)(b:Below y.heap.size y z)(hn:n<=y.heap.size):Kp r n x z:=⟨afv k.size b.size,λi hi hr=>(b.block i (by omega)).trans (k.blk i hi hr)⟩
theorem acO {w0:World}{r:Nat}{A:Option Addr}{c:Nat}{xs:List Int}(hI:Inp w0 r A c xs){i H:Nat}{W:World}(hR:Rd w0 r A c xs i W){T':TypeId}(hH:W.heap[H]? =some (.cells #[.pointer (some ⟨r,0,none⟩)] T' (0,0))){p:Nat×Nat}(hp:p∈jE)(hA:At xs i (Num.put (tyN p))):
  Calls Tryz.prog 113 #[.pointer (some ⟨H,0,none⟩)] W (Got w0 r A c xs (i+(Num.put (tyN p)).length) W (.agg (oU p).toArray)):=by
 obtain⟨t0,t7⟩:=a6X p hp
 have HC:=Lib.hid (tC hI (hR.alloc (.cells #[.int .u8 0,.int .u8 0] 88 (0,0))) (lo:=0) (hi:=7) hA (by decide) t0 t7 (by decide))
 have HOF:=Lib.hid (λW1=>adI hp W1)
 have qH:(W.alloc (.cells #[.int .u8 0,.int .u8 0] 88 (0,0))).cell? ⟨H,0,none⟩=some (.pointer (some ⟨r,0,none⟩)):=by rw[Lib.cell_of_heap (dA hH)];rfl
 have HRA:=Lib.hid ((Kp.refl r W.heap.size W).alloc (aeM _) (.cells #[.int .u8 0,.int .u8 0] 88 (0,0)))
 have hlt:=hR.lt
 have h0:=hI.r
 have hbs:=hR.b.size
 generalize i+(Num.put (tyN p)).length=l at *
 generalize tyN p=n at *
 unfold oU at *
 clear hI hR hA hp hH
 go_enter Tryz.func113,Tryz.ntmps113
 go_upto_region 2 with(first |(go_at_call 111;refine HC.out.mono ?_;rintro e w9 ⟨rfl,rd9,kp9⟩)|(go_at_call 36;refine(HOF.out _).mono ?_;rintro e w1 ⟨rfl,b1⟩)|(refine Bx.new rfl rfl 88 _ _ rfl 88 [.int .u8 0,.int .u8 0] [.int .u8 p.1,.int .u8 p.2] (rd9.below b1) rfl rfl rfl a7o (fH rfl) (λw2 bx2=>?_)))
 have hk9:=kp9.below b1 (by have:=kp9.size;simpa using this)
 have HKP:=Lib.hid (HRA.out.trans (hk9.mono (by simp)))
 have HRS:=Lib.hid (hk9.at (k:=W.heap.size) (by simp) (by omega) (ay rfl))
 have HHn:=Lib.hid (show W.heap.size<w1.heap.size from by have:=hk9.size;simp at this;omega)
 clear rd9 kp9 b1 hk9
 have HBC:=Lib.hid bx2
 clear bx2
 go_wp2_with (first |(refine ahQ rfl 88 _ rfl w1.heap.size rfl 88 _ (0,0) _ HBC.out.bx Tryz.underlying88 rfl a7o ?_)|(refine HBC.out.out rfl rfl 88 _ _ rfl W.heap.size HHn.out (by omega) [.int .u8 0,.int .u8 0] 88 HRS.out rfl rfl rfl a7o (fH rfl) (λhh9=>?_)))
 refine ahP (ahN rfl _ _ W.heap.size 88 _ (0,0) _ rfl hh9 Tryz.underlying88 rfl a7o) rfl ?_
 exact HBC.out.fin HKP.out hlt hbs (aeM _) _ rfl
theorem acW (u:Bool):0<=uN u/\uN u<=1:=by cases u<;>decide
theorem a6V {ls:List (Nat×Nat)}{els:List (List Value)}(h:au (λ(a:Nat×Nat) cs=>cs=oU a) ls els):els=ls.map oU:=by
 induction ls generalizing els with
 |nil=>cases els with
  |nil=>rfl
  |cons _ _=>exact h.elim
 |cons a ops ih=>cases els with
  |nil=>exact h.elim
  |cons x els=>rw[afr,h.1,ih h.2]
def SC (r:Nat)(v:FnV)(W:World)(cs:List Value):Prop:=∃lv bv bels,cs=[.int .i64 v.p,.bool v.u,lv,bv]/\Own W (r+1) 88 2 lv (v.ls.map oU)/\Own W (r+1) 99 14 bv bels/\au (λb cs=>ER r b W cs) v.bs bels
def zF:List Value:=[.int .i64 0,.bool false,.slice none 0 0,.slice none 0 0]
theorem adq {w0:World}{r:Nat}{A:Option Addr}{c:Nat}{xs:List Int}(hI:Inp w0 r A c xs){i:Nat}{W:World}(hR:Rd w0 r A c xs i W){v:FnV}(hv:v.ok)(hA:At xs i v.b):
  Calls Tryz.prog 57 #[.pointer (some ⟨r,0,none⟩)] W (Hw w0 r A c xs (i+v.b.length) W (ElR (SC r v) 4)):=by
 have HI:=Lib.hid hI
 have HR:=Lib.hid hR
 have hlt:=hR.lt
 have h0:=hI.r
 have hbs:=hR.b.size
 obtain⟨p0,p8⟩:=hv.p
 obtain⟨u0,u1⟩:=acW v.u
 have hl0:=hv.l0
 have hl1:=hv.l1
 have hls:=hv.ls
 have hb0:=hv.b0
 have hb1:=hv.b1
 have hbk:=hv.bs
 have HRA:=Lib.hid (((Kp.refl r W.heap.size W).alloc (aeM _) (.cells #[.pointer (some ⟨r,0,none⟩)] 122 (0,0))).alloc (by simp) (.cells zF.toArray 40 (0,0)))
 have hmf:∀(fn:Fn) (first cap:Array Value) (w:World),(Instr.makeFunc fn first cap).run Tryz.prog w=.ok (.func fn first cap) w:=λ_ _ _ _=>rfl
 have qr:((W.alloc (.cells #[.pointer (some ⟨r,0,none⟩)] 122 (0,0))).alloc (.cells #[.int .i64 0,.bool false,.slice none 0 0,.slice none 0 0] 40 (0,0))).cell? ⟨W.heap.size,0,none⟩=some (.pointer (some ⟨r,0,none⟩)):=by
  rw[Lib.cell_of_heap (dA (ay rfl))];rfl
 rw[show v.b=Num.put v.p++(Num.put (uN v.u)++((Num.put (v.ls.length:Nat)++v.ls.flatMap λt=>Num.put (tyN t))++(Num.put (v.bs.length:Nat)++v.bs.flatMap BlV.b)))from by simp[FnV.b,DT,FM,af9]]at hA |-
 have hB1:=hA.left
 have hA1:=hA.right
 have hB2:=hA1.left
 have hA2:=hA1.right
 have hB3:=hA2.left
 have hB4:=hA2.right
 have H1:=Lib.hid (λ(W1:World) (hR1:Rd w0 r A c xs i W1)=>tC HI.out hR1 (lo:=0) (hi:=8) hB1 (by decide) p0 p8 (by decide))
 have H2:=Lib.hid (λ(W1:World) (hR1:Rd w0 r A c xs _ W1)=>tC HI.out hR1 (lo:=0) (hi:=1) hB2 (by decide) u0 u1 (by decide))
 have H3:=Lib.hid (λ(W1:World) (hR1:Rd w0 r A c xs _ W1) (H:Nat) (hr:H≠r) (hH:W1.heap[H]? =some (.cells #[.pointer (some ⟨r,0,none⟩)] 122 (0,0)))=>a4T (.inr (.inr (.inl ⟨rfl,rfl,rfl,rfl,rfl⟩))) HI.out hR1 (X:=H) (El:=λa _ cs=>cs=oU a) (λ_ _ _ _ h _=>h) (b:=λt=>Num.put (tyN t)) (ls:=v.ls) (lo:=1) (hi:=16) (by decide) (by omega) (by omega) (by decide) hB3 (λa ha W2 j k1 r1 a1=>(acO HI.out r1 (k1.at (aeN.1 hH).1 hr hH) (hls a ha) a1).mono (λe W3 h=>h.ex (λ_=>⟨oU a,rfl,rfl,fH rfl,rfl⟩))))
 have H4:=Lib.hid (λ(W1:World) (hR1:Rd w0 r A c xs _ W1)=>a4T (.inr (.inr (.inr (.inl ⟨rfl,rfl,rfl,rfl,rfl⟩)))) HI.out hR1 (X:=r) (El:=λb W cs=>ER r b W cs) (λ_ _ _ _ h k=>h.keep (by decide) (by decide) k) (b:=BlV.b) (ls:=v.bs) (lo:=1) (hi:=24) (by decide) (by omega) (by omega) (by decide) hB4 (λa ha W2 j k1 r1 a1=>acM HI.out r1 (hbk a ha) a1))
 have HJ:=Lib.hid (show i+(Num.put v.p++(Num.put (uN v.u)++((Num.put (v.ls.length:Nat)++v.ls.flatMap λt=>Num.put (tyN t))++(Num.put (v.bs.length:Nat)++v.bs.flatMap BlV.b)))).length=i+(Num.put v.p).length+(Num.put (uN v.u)).length+(Num.put (v.ls.length:Nat)++v.ls.flatMap λt=>Num.put (tyN t)).length+(Num.put (v.bs.length:Nat)++v.bs.flatMap BlV.b).length from by simp only[aeL];omega)
 rw[HJ.out]
 generalize i+(Num.put v.p).length=j1 at *
 generalize j1+(Num.put (uN v.u)).length=j2 at *
 generalize j2+(Num.put (v.ls.length:Nat)++v.ls.flatMap λt=>Num.put (tyN t)).length=j3 at *
 generalize j3+(Num.put (v.bs.length:Nat)++v.bs.flatMap BlV.b).length=l at *
 clear hA hB1 hA1 hB2 hA2 hB3 hB4 hI hR hls hbk HJ hv
 have HUN:=Lib.hid (show(uN v.u==1)=v.u from by cases v.u<;>decide)
 generalize hun:uN v.u=un at *
 clear hun
 go_enter Tryz.func57,Tryz.ntmps57
 go_upto_region 2 with(first |(go_at_call 111;refine(H1.out _ ((HR.out.alloc _).alloc _)).mono ?_;rintro e w1 ⟨rfl,rd1,kp1⟩)|(refine Bx.new rfl rfl 40 _ _ rfl 40 zF [.int .i64 v.p,.bool false,.slice none 0 0,.slice none 0 0] rd1 rfl rfl rfl a7G (fH rfl) (λw2 bx2=>?_)))
 have HKP:=Lib.hid (HRA.out.trans (kp1.mono (by simp;omega)))
 have HRB:=Lib.hid (kp1.at (k:=W.heap.size) (by simp;omega) (by omega) (dA (ay rfl)))
 have HRS:=Lib.hid (kp1.at (k:=W.heap.size+1) (by simp) (by omega) (ay (by simp)))
 have hhn:W.heap.size+1<w1.heap.size:=by have:=kp1.size;simp at this;omega
 have HHn:=Lib.hid hhn
 clear rd1 kp1 qr
 have HB2:=Lib.hid bx2
 have qr:=bx2.low (H:=W.heap.size) (by omega) (by omega) HRB.out
 clear bx2
 go_upto_region 3 with(go_at_call 111;refine(H2.out _ HB2.out.rd).mono ?_;rintro e w3 ⟨rfl,rd3,kp3⟩;have b3:=HB2.out.call rd3 kp3;have fz3:=b3.fz 1;have ce3:=b3.cell 1 rfl)
 have b4:=b3.set 1 (.bool (un==1))
 clear b3 fz3 ce3 rd3 kp3 qr
 generalize w3.setCell _ _=w4 at *
 rw[HUN.out]at b4
 have HB4:=Lib.hid (show Bx w0 r A c xs 40 w1 [.int .i64 v.p,.bool v.u,.slice none 0 0,.slice none 0 0] j2 w4 from b4)
 clear b4
 have qr:=HB4.out.low (H:=W.heap.size) (by omega) (by omega) HRB.out
 go_upto_region 4 with(go_at_call 112;refine(H3.out _ HB4.out.rd W.heap.size (by omega) ((HB4.out.kp.blk _ (by omega) (by omega)).trans HRB.out)).mono ?_;rintro e w5 ⟨lv,rfl,rd5,kp5,els,own5,all5⟩;obtain rfl:=a6V all5;obtain⟨Al,cl,rfl⟩:=own5.slice;have b5:=HB4.out.call rd5 kp5;have fz5:=b5.fz 2;have ce5:=b5.cell 2 rfl)
 rw[af4]at *
 have b6:=b5.set 2 (.slice Al v.ls.length cl)
 have HOL:=Lib.hid ((own5.base (B':=r+1) (by have:=HB4.out.lt;omega)).keep (afF r) (by decide) (Lib.OthersKept.setRowCell (Lib.OthersKept.refl 40 (some r) w5) b5.bx 2 (.slice Al v.ls.length cl)))
 clear b5 fz5 ce5 rd5 kp5 own5 all5 qr
 generalize w5.setCell _ _=w6 at *
 have HB6:=Lib.hid (show Bx w0 r A c xs 40 w1 [.int .i64 v.p,.bool v.u,.slice Al v.ls.length cl,.slice none 0 0] j3 w6 from b6)
 clear b6
 have qr:=HB6.out.low (H:=W.heap.size) (by omega) (by omega) HRB.out
 go_upto_region 5 with(go_at_call 114;refine(H4.out _ HB6.out.rd).mono ?_;rintro e w7 ⟨bv,rfl,rd7,kp7,bels,own7,all7⟩;obtain⟨Ab,cb,rfl⟩:=own7.slice;have b7:=HB6.out.call rd7 kp7;have fz7:=b7.fz 3;have ce7:=b7.cell 3 rfl)
 have b8:=b7.set 3 (.slice Ab bels.length cb)
 have ho8:=Lib.OthersKept.setRowCell (Lib.OthersKept.refl 40 (some r) w7) b7.bx 3 (.slice Ab bels.length cb)
 have HOL8:=Lib.hid ((HOL.out.kp (afF r) kp7).keep (afF r) (by decide) ho8)
 have HOB8:=Lib.hid ((own7.base (B':=r+1) (by have:=HB6.out.lt;omega)).keep (afF r) (by decide) ho8)
 have HAL8:=Lib.hid (all7.imp λb cs h=>h.keep (by decide) (by decide) ho8)
 clear b7 fz7 ce7 rd7 kp7 own7 all7 ho8 qr
 generalize w7.setCell _ _=w8 at *
 have HBC:=Lib.hid (show Bx w0 r A c xs 40 w1 [.int .i64 v.p,.bool v.u,.slice Al v.ls.length cl,.slice Ab bels.length cb] l w8 from b8)
 clear b8
 go_wp2_with (first |(refine ahQ rfl 40 _ rfl w1.heap.size rfl 40 _ (0,0) _ HBC.out.bx Tryz.underlying40 rfl a7G ?_)|(refine HBC.out.out rfl rfl 40 _ _ rfl (W.heap.size+1) HHn.out (by omega) zF 40 HRS.out rfl rfl rfl a7G (fH rfl) (λhh9=>?_)))
 refine ahP (ahN rfl _ _ (W.heap.size+1) 40 _ (0,0) _ rfl hh9 Tryz.underlying40 rfl a7G) rfl ?_
 have hfin:=HBC.out.fin (H:=W.heap.size+1) HKP.out hlt hbs (by omega) _ rfl
 have ho9:=MW HBC.out HHn.out (by omega) HRS.out [Value.int .i64 v.p,.bool v.u,.slice Al v.ls.length cl,.slice Ab bels.length cb].toArray
 exact⟨_,rfl,hfin.2.1,hfin.2.2,_,rfl,rfl,fH rfl,_,_,bels,rfl,HOL8.out.keep (afF r) (by decide) ho9,HOB8.out.keep (afF r) (by decide) ho9,HAL8.out.imp λb cs h=>h.keep (by decide) (by decide) ho9⟩
open txt (jE oU)
theorem ki {n:Int}(h0:-9223372036854775808<=n)(h1:n<=9223372036854775807):Kd.ok (.i .i64) (.int .i64 n):=⟨n,rfl,h0,h1⟩
theorem ku {n:Int}(h0:0<=n)(h1:n<=255):Kd.ok (.i .u8) (.int .u8 n):=⟨n,rfl,h0,h1⟩
theorem kb (d:Bool):Kd.ok .b (.bool d):=⟨d,rfl⟩
theorem PlV.kd {q:PlV}(h:q.ok):au Kd.ok kW q.c:=⟨ki (by have:=h.l0;omega) (by have:=h.l1;omega),kb _,ku h.f0 (by have:=h.f1;omega),trivial⟩
theorem J5:au Kd.ok kW zP:=⟨ki (by decide) (by decide),kb _,ku (by decide) (by decide),trivial⟩
theorem uw:au Kd.ok opK zO:=⟨ku (by decide) (by decide),ki (by decide) (by decide),ki (by decide) (by decide),kb _,ku (by decide) (by decide),trivial⟩
theorem OpV.kd {a:OpV}(h:a.ok):au Kd.ok opK a.c:=by
 cases a with
 |k n=>exact⟨ku (by decide) (by decide),ki h.1 h.2,ki (by decide) (by decide),kb _,ku (by decide) (by decide),trivial⟩
 |p m q=>
  have h:q.ok:=h
  exact⟨ku (by cases m<;>decide) (by cases m<;>decide),ki (by decide) (by decide),ki (by have:=h.l0;omega) (by have:=h.l1;omega),kb _,ku h.f0 (by have:=h.f1;omega),trivial⟩
theorem k3 {a b c:Int}(a0:0<=a)(a1:a<=255)(b0:0<=b)(b1:b<=255)(c0:0<=c)(c1:c<=255):au Kd.ok [.i .u8,.i .u8,.i .u8] [.int .u8 a,.int .u8 b,.int .u8 c]:=⟨ku a0 a1,ku b0 b1,ku c0 c1,trivial⟩
abbrev adi:List Kd:=[.i .u8,.i .u8,.i .u8]++(opK++(opK++kW))
theorem a8E:au Kd.ok adi zR:=(k3 (by decide) (by decide) (by decide) (by decide) (by decide) (by decide)).app (uw.app (uw.app J5))
theorem RvV.kd {v:RvV}(h:v.ok):au Kd.ok adi v.c:=by
 cases v with
 |use a=>exact(k3 (by decide) (by decide) (by decide) (by decide) (by decide) (by decide)).app ((OpV.kd (a:=a) h).app (uw.app J5))
 |bin o a b=>exact(k3 (by decide) (by decide) (by have:=h.1;omega) (by have:=h.2.1;omega) (by decide) (by decide)).app ((OpV.kd h.2.2.1).app ((OpV.kd h.2.2.2).app J5))
 |two a b=>exact(k3 (by decide) (by decide) (by decide) (by decide) (by decide) (by decide)).app ((OpV.kd h.1).app ((OpV.kd h.2).app J5))
 |ref o q=>exact(k3 (by decide) (by decide) (by decide) (by decide) (by have:=h.1;omega) (by have:=h.2.1;omega)).app (uw.app (uw.app (PlV.kd h.2.2)))
 |raw q=>exact(k3 (by decide) (by decide) (by decide) (by decide) (by decide) (by decide)).app (uw.app (uw.app (PlV.kd (q:=q) h)))
theorem k1 {n:Int}(h0:-9223372036854775808<=n)(h1:n<=9223372036854775807):au Kd.ok [.i .i64] [.int .i64 n]:=⟨ki h0 h1,trivial⟩
theorem StV.kd {s:StV}(h:s.ok):au Kd.ok zk s.c:=by
 cases s with
 |asg q v=>exact⟨ku (by decide) (by decide),(PlV.kd h.1).app ((RvV.kd h.2).app (uw.app (k1 (by decide) (by decide))))⟩
 |one m a=>exact⟨ku (by cases m<;>decide) (by cases m<;>decide),J5.app (a8E.app ((OpV.kd (a:=a) h).app (k1 (by decide) (by decide))))⟩
 |fresh l=>exact⟨ku (by decide) (by decide),J5.app (a8E.app (uw.app (k1 (by have:=h.1;omega) (by have:=h.2;omega))))⟩
theorem k3i {a b c:Int}(a0:-9223372036854775808<=a)(a1:a<=9223372036854775807)(b0:-9223372036854775808<=b)(b1:b<=9223372036854775807)(c0:-9223372036854775808<=c)(c1:c<=9223372036854775807):au Kd.ok [.i .i64,.i .i64,.i .i64] [.int .i64 a,.int .i64 b,.int .i64 c]:=⟨ki a0 a1,ki b0 b1,ki c0 c1,trivial⟩
theorem JmV.abN {j:JmV}{ops:List OpV}(h:j.ok ops):au Kd.ok qM j.pre:=by
 cases j with
 |go n=>exact⟨ku (by decide) (by decide),uw.app (k3i (by decide) (by decide) (by have:=h.1.1;omega) (by have:=h.1.2;omega) (by decide) (by decide))⟩
 |br a n e=>exact⟨ku (by decide) (by decide),(OpV.kd h.2.2.1).app (k3i (by decide) (by decide) (by have:=h.1.1;omega) (by have:=h.1.2;omega) (by have:=h.2.1.1;omega) (by have:=h.2.1.2;omega))⟩
 |ret=>exact⟨ku (by decide) (by decide),uw.app (k3i (by decide) (by decide) (by decide) (by decide) (by decide) (by decide))⟩
 |abort=>exact⟨ku (by decide) (by decide),uw.app (k3i (by decide) (by decide) (by decide) (by decide) (by decide) (by decide))⟩
 |call f q n=>exact⟨ku (by decide) (by decide),uw.app (k3i (by have:=h.1.1;omega) (by have:=h.1.2;omega) (by have:=h.2.1.1;omega) (by have:=h.2.1.2;omega) (by decide) (by decide))⟩
theorem JmV.aa4 {j:JmV}{ops:List OpV}(h:j.ok ops):au Kd.ok kW j.post:=by
 cases j with
 |call f q n=>exact PlV.kd h.2.2.1
 |_=>exact J5
theorem JmV.Qx {j:JmV}{ops:List OpV}(h:j.ok ops):∀a∈ops,a.ok:=by
 cases j with
 |call f q n=>exact h.2.2.2.2
 |go n=>have:=h.2;subst this;intro a ha;cases ha
 |br a n e=>have:=h.2.2.2;subst this;intro a ha;cases ha
 |ret=>have:ops=[]:=h;subst this;intro a ha;cases ha
 |abort=>have:ops=[]:=h;subst this;intro a ha;cases ha
theorem YC {r:Nat}{b:BlV}{W:World}{cs:List Value}(h:ER r b W cs)(hb:b.ok):∃D:bU,cs=D.cells/\jV W D/\D.core=b.core:=by
 obtain⟨s,a,e,o1,o2⟩:=h
 refine⟨⟨s,b.j.pre,a,b.j.post,b.ss.map StV.c,b.ops.map OpV.c⟩,e,⟨o1.list,λst hs=>?_,JmV.abN hb.j,o2.list,λo ho=>?_,JmV.aa4 hb.j⟩,rfl⟩
 ·obtain⟨x,hx,rfl⟩:=afo.1 hs
  exact StV.kd (hb.s x hx)
 ·obtain⟨x,hx,rfl⟩:=afo.1 ho
  exact OpV.kd (JmV.Qx hb.j x hx)
theorem Ig {r:Nat}{W:World}:∀{bs:List BlV} {els:List (List Value)},au (λb cs=>ER r b W cs) bs els->(∀b∈bs,b.ok)->∃Ds:List bU,els=Ds.map bU.cells/\(∀D∈Ds,jV W D)/\Ds.map bU.core=bs.map BlV.core
 |[],[],_,_=>⟨[],rfl,λ_ h=>(by cases h),rfl⟩
 |[],_::_,h,_=>h.elim
 |_::_,[],h,_=>h.elim
 |b::bs,cs::els,h,hk=>by
  obtain⟨D,e,k,c⟩:=YC h.1 (hk b afh)
  obtain⟨Ds,e2,k2,c2⟩:=Ig h.2 λx hx=>hk x (afd _ hx)
  refine⟨D::Ds,by rw[e,e2,afr],λx hx=>?_,by rw[afr,afr,c,c2]⟩
  rcases aeQ.1 hx with rfl|hx
  ·exact k
  ·exact k2 x hx
theorem acz {p:Nat×Nat}(hp:p∈jE):au Kd.ok [.i .u8,.i .u8] (oU p):=by
 have:p.1<=5/\p.2<=2:=by revert p;decide
 exact⟨ku (by omega) (by omega),ku (by omega) (by omega),trivial⟩
theorem a4W {r:Nat}{v:FnV}{W:World}{cs:List Value}(h:SC r v W cs)(hv:v.ok):∃D:FnD,cs=D.cells/\aZ W (.agg #[.int .i64 D.p,.bool D.u,D.lv,D.bv]) D/\D.core=v.core:=by
 obtain⟨lv,bv,bels,e,o1,o2,hb⟩:=h
 obtain⟨Ds,e2,k2,c2⟩:=Ig hb hv.bs
 subst e2
 have hp:Kd.ok (.i .i64) (.int .i64 v.p):=ki (by have:=hv.p.1;omega) (by have:=hv.p.2;omega)
 refine⟨⟨v.p,v.u,lv,bv,v.ls.map oU,Ds,⟨qj,[]⟩⟩,e,⟨rfl,hp,o1.list,λt ht=>?_,o2.list,k2⟩,?_⟩
 ·obtain⟨x,hx,rfl⟩:=afo.1 ht
  exact acz (hv.ls x hx)
 ·unfold FnD.core FnV.core
  rw[c2]
theorem ML {r:Nat}{W:World}:∀{vs:List FnV} {els:List (List Value)},au (λb cs=>SC r b W cs) vs els->(∀b∈vs,b.ok)->∃Ds:List FnD,els=Ds.map FnD.cells/\(∀D∈Ds,aZ W (.agg #[.int .i64 D.p,.bool D.u,D.lv,D.bv]) D)/\Ds.map FnD.core=vs.map FnV.core
 |[],[],_,_=>⟨[],rfl,λ_ h=>(by cases h),rfl⟩
 |[],_::_,h,_=>h.elim
 |_::_,[],h,_=>h.elim
 |b::bs,cs::els,h,hk=>by
  obtain⟨D,e,k,c⟩:=a4W h.1 (hk b afh)
  obtain⟨Ds,e2,k2,c2⟩:=ML h.2 λx hx=>hk x (afd _ hx)
  refine⟨D::Ds,by rw[e,e2,afr],λx hx=>?_,by rw[afr,afr,c,c2]⟩
  rcases aeQ.1 hx with rfl|hx
  ·exact k
  ·exact k2 x hx
theorem QK {r:Nat}{W:World}{fv:Value}{vs:List FnV}{els:List (List Value)}(ho:Own W (r+1) 40 4 fv els)(h:au (λb cs=>SC r b W cs) vs els)(hk:∀b∈vs,b.ok):∃Ds:List FnD,dS W (.agg #[fv]) fv Ds/\Ds.map FnD.core=vs.map FnV.core:=by
 obtain⟨Ds,rfl,k,c⟩:=ML h hk
 exact⟨Ds,⟨rfl,ho.list,k⟩,c⟩
theorem SC.keep {r:Nat}{v:FnV}{W W':World}{cs:List Value}{T:TypeId}(h:SC r v W cs)(h1:63≠T)(h2:59≠T)(h3:88≠T)(h4:99≠T)(hk:Lib.OthersKept T (some r) W W'):SC r v W' cs:=by
 obtain⟨lv,bv,bels,e,o1,o2,hb⟩:=h
 exact⟨lv,bv,bels,e,o1.keep (afF r) h3 hk,o2.keep (afF r) h4 hk,hb.imp λb cs k=>k.keep h1 h2 hk⟩
