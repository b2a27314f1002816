/- decode: jumps. decode: blocks. -/
import Derived.Test.YtnhnelgkcldkbaaGreatDoorDecM
import Derived.Lib.BufferKept
set_option linter.all false
set_option maxHeartbeats 8000000
set_option maxRecDepth 100000
open List renaming set_append_right → aia
namespace Go.Proofs.YtnhnelgkcldkbaaGreatDoor
namespace enc
open Go.RowKit Am loan bld
def zJ:List Value:=.int .u8 0::(zO++([.int .i64 0,.int .i64 0,.int .i64 0]++(.slice none 0 0::zP)))
theorem Qq:(Tryz.prog.info? 81).map (·.size)=some 13:=by kernel_rfl
def Hold (n:Nat)(W W':World):Prop:=W.heap.size<=W'.heap.size/\∀k,n<=k->k<W.heap.size->W'.heap[k]? =W.heap[k]?
theorem Hold.set {n:Nat}(W:World)(p:Addr)(v:Value)(hp:p.block<n):Hold n W (W.setCell p v):=⟨by simp[World.setCell],λk hk _=>ahM _ p k _ (by omega)⟩
theorem Hold.row {n:Nat}(W:World)(H:Nat)(cs:Array Value)(hp:H<n):Hold n W (W.setRow H cs):=⟨by simp[World.setRow],λk hk _=>tH.1 k (by omega)⟩
theorem Own.hold {W W':World}{B n:Nat}{T:TypeId}{sz:Nat}{v:Value}{els:List (List Value)}(h:Own W B T sz v els)(hn:n<=B)(k:Hold n W W'):Own W' B T sz v els:=⟨uX h.own λg hg=>by have:=CU h.own g hg;exact k.2 g (by omega) (by omega),h.len⟩
theorem Own.base {W:World}{B B':Nat}{T:TypeId}{sz:Nat}{v:Value}{els:List (List Value)}(h:Own W B T sz v els)(hb:B'<=B):Own W B' T sz v els:=by
 obtain⟨⟨h1,h2⟩,h3⟩:=h
 refine⟨⟨h1,?_⟩,h3⟩
 rcases h2 with h2|⟨g,cap,cur,rfl,hg,q⟩
 ·exact .inl h2
 ·exact .inr ⟨g,cap,cur,rfl,afv hb hg,q⟩
theorem Bx.aeB {P:Program}{ops:Array Oper}{rest:List Oper}{op:Oper}{a:Act}{W:World}{Q:Exit->Act->World->Prop}{w0:World}{r:Nat}{A:Option Addr}{c:Nat}{xs:List Int}{T:TypeId}{W1:World}{i:Nat}(hgd:op.guard=none)(hd:op.dst=none)(ty:TypeId)(x y:Operand)(ho:op.op=.store ty x y)(p o v q:List Value)(h:Bx w0 r A c xs T W1 (p++(o++q)) i W)
  (n:Nat) (hn:p.length=n) (hov:o.length=v.length) (hx:a.eval x=.pointer (some ⟨W1.heap.size,n,none⟩)) (hy:a.eval y=.agg v.toArray) (hi:(P.info? ty).map (·.size)=some v.length) (h1:∀u∈v,u.oneCell'=true)
  (k:∀W',Bx w0 r A c xs T W1 (p++(v++q)) i W'->Hold (W1.heap.size+1) W W'->wpList P ops Q rest a W'):wpList P ops Q (op::rest) a W:=by
 refine vU hgd ty x y ho hd W1.heap.size n v hx hy h.bx (by simp only[aeL];omega) hi h1 λW' g1 g2 g3 g4=>k W' ⟨h.rd.put (by have:=h.rl;omega) h.w0 g2 g4,h.kp.trans ⟨by rw[g3];exact aeM _,λi hi hr=>g2 i (by omega)⟩,?_,h.rl,h.w0⟩ ⟨by rw[g3];exact aeM _,λk hk _=>g2 k (by omega)⟩
 have e1:(p++(o++q)).take n=p:=by rw[<-hn];exact List.take_left
 have e2:(p++(o++q)).drop (n+v.length)=q:=by rw[<-hn,<-hov,<-af9,<-aeL];exact List.drop_left
 rw[e1,e2]at g1
 exact g1
theorem Bx.ach {w0:World}{r:Nat}{A:Option Addr}{c:Nat}{xs:List Int}{T:TypeId}{W1:World}{p m q:List Value}{i:Nat}{W:World}(h:Bx w0 r A c xs T W1 (p++(m++q)) i W)(n j:Nat)(hn:p.length+m.length+j=n)(v:Value):Bx w0 r A c xs T W1 (p++(m++q.set j v)) i (W.setCell ⟨W1.heap.size,n,none⟩ v):=by
 have k:=h.set n v
 have e:(p++(m++q)).set n v=p++(m++q.set j v):=by
  rw[aia _ _ (by omega),aia _ _ (by omega)]
  congr 3
  omega
 rwa[e]at k
theorem Bx.a9u {w0:World}{r:Nat}{A:Option Addr}{c:Nat}{xs:List Int}{T:TypeId}{W1:World}{p m q:List Value}{i:Nat}{W:World}(h:Bx w0 r A c xs T W1 (p++(m++q)) i W)(n j:Nat)(hn:p.length+m.length+j=n){v:Value}(hv:q[j]? =some v):W.cell? ⟨W1.heap.size,n,none⟩=some v:=by
 refine h.cell n ?_
 rw[af7 (by omega),af7 (by omega),<-hv]
 congr 1
 omega
theorem Bx.low {w0:World}{r:Nat}{A:Option Addr}{c:Nat}{xs:List Int}{T T':TypeId}{W1:World}{cs:List Value}{i H:Nat}{W:World}{v:Value}(h:Bx w0 r A c xs T W1 cs i W)(hH:H<W1.heap.size)(hr:H≠r)(hv:W1.heap[H]? =some (.cells #[v] T' (0,0))):W.cell? ⟨H,0,none⟩=some v:=by
 rw[Lib.cell_of_heap ((h.kp.blk H hH hr).trans hv)]
 rfl
theorem a6S {w0:World}{r:Nat}{A:Option Addr}{c:Nat}{xs:List Int}(hI:Inp w0 r A c xs){i H:Nat}{W:World}(hR:Rd w0 r A c xs i W)(hH:W.cell? ⟨H,0,none⟩=some (.pointer (some ⟨r,0,none⟩))){n:Int}(n0:0<=n)(n1:n<=23)(hA:At xs i (Num.put n)):
  Calls Tryz.prog 205 #[.pointer (some ⟨H,0,none⟩)] W (Got w0 r A c xs (i+(Num.put n).length) W (.int .i64 n)):=by
 have HC:=Lib.hid (tC hI hR (lo:=0) (hi:=23) hA (by decide) n0 n1 (by decide))
 clear hI hR hA
 go_enter Tryz.func205,Tryz.ntmps205
 go_wp2_with (go_at_call 111;refine HC.out.mono ?_;rintro e w1 ⟨rfl,rd1,kp1⟩)
 go_ret
 exact⟨rfl,rd1,kp1⟩
def JmR (r:Nat)(j:JmV)(ops:List OpV)(v:Value)(W:World):Prop:=∃av,v=.agg (j.pre++(av::j.post)).toArray/\Own W (r+1) 59 5 av (ops.map OpV.c)
theorem a7Q {ops:List OpV}{els:List (List Value)}(h:au (λ(a:OpV) cs=>cs=a.c) ops els):els=ops.map OpV.c:=by
 induction ops generalizing els with
 |nil=>cases els with
  |nil=>rfl
  |cons _ _=>exact h.elim
 |cons a ops ih=>cases els with
  |nil=>exact h.elim
  |cons x els=>rw[afr,h.1,ih h.2]
theorem ac9 {w0:World}{r:Nat}{A:Option Addr}{c:Nat}{xs:List Int}(hI:Inp w0 r A c xs){i:Nat}{W:World}(hR:Rd w0 r A c xs i W){v:JmV}{ops:List OpV}(hv:v.ok ops)(hA:At xs i (v.b ops)):
  Calls Tryz.prog 171 #[.pointer (some ⟨r,0,none⟩)] W (Hw w0 r A c xs (i+(v.b ops).length) W (JmR r v ops)):=by
 have HI:=Lib.hid hI
 have HR:=Lib.hid hR
 have hlt:=hR.lt
 have h0:=hI.r
 have hbs:=hR.b.size
 have HRA:=Lib.hid (((Kp.refl r W.heap.size W).alloc (aeM _) (.cells #[.pointer (some ⟨r,0,none⟩)] 122 (0,0))).alloc (by simp) (.cells zJ.toArray 81 (0,0)))
 have hmf:∀(fn:Fn) (first cap:Array Value) (w:World),(Instr.makeFunc fn first cap).run Tryz.prog w=.ok (.func fn first cap) w:=λ_ _ _ _=>rfl
 have qr:((W.alloc (.cells #[.pointer (some ⟨r,0,none⟩)] 122 (0,0))).alloc (.cells zJ.toArray 81 (0,0))).cell? ⟨W.heap.size,0,none⟩=some (.pointer (some ⟨r,0,none⟩)):=by
  rw[Lib.cell_of_heap (dA (ay rfl))];rfl
 simp only[zJ,zO,zP,ag9,agx]at qr
 clear hI hR
 rcases v with n|⟨a,n,e⟩|_|_|⟨f,q,n⟩
 obtain⟨⟨n0,n1⟩,ho⟩:=hv
 subst ho
 have hA0:At xs i (Num.put 1++Num.put n):=hA
 have hB1:=hA0.left
 have hA1:=hA0.right
 have hB2:=hA1
 have H1:=Lib.hid (λ(W1:World) (hR1:Rd w0 r A c xs (i) W1)=>lG HI.out hR1 (n:=1) (lo:=1) (hi:=5) hB1 (by decide) (by decide) (by decide) (by decide))
 have H2:=Lib.hid (λ(W1:World) (hR1:Rd w0 r A c xs (i+(Num.put 1).length) W1) {H:Nat} (hH1:W1.cell? ⟨H,0,none⟩=some (.pointer (some ⟨r,0,none⟩)))=>a6S HI.out hR1 hH1 (n:=n) n0 n1 hB2)
 have HJ:=Lib.hid (show i+(Num.put 1++Num.put n).length=i+(Num.put 1).length+(Num.put n).length from by simp only[aeL];omega)
 show Calls _ _ _ _ (Hw w0 r A c xs (i+(Num.put 1++Num.put n).length) W _)
 rw[HJ.out]
 generalize i+(Num.put 1).length=j1 at *
 generalize j1+(Num.put n).length=l at *
 clear hA hA0 hB1 hB2 hA1 HJ
 obtain⟨kd,ek⟩:∃kd:Int,kd=1:=⟨_,rfl⟩
 rotate_left
 obtain⟨⟨n0,n1⟩,⟨e0,e1⟩,hva,ho⟩:=hv
 subst ho
 have hA0:At xs i (Num.put 2++(a.b++(Num.put n++Num.put e))):=hA
 have hB1:=hA0.left
 have hA1:=hA0.right
 have hB2:=hA1.left
 have hA2:=hA1.right
 have hB3:=hA2.left
 have hA3:=hA2.right
 have hB4:=hA3
 have H1:=Lib.hid (λ(W1:World) (hR1:Rd w0 r A c xs (i) W1)=>lG HI.out hR1 (n:=2) (lo:=1) (hi:=5) hB1 (by decide) (by decide) (by decide) (by decide))
 have H2:=Lib.hid (λ(W1:World) (hR1:Rd w0 r A c xs (i+(Num.put 2).length) W1)=>EP HI.out hR1 (a:=a) hva hB2)
 have H3:=Lib.hid (λ(W1:World) (hR1:Rd w0 r A c xs (i+(Num.put 2).length+(a.b).length) W1) {H:Nat} (hH1:W1.cell? ⟨H,0,none⟩=some (.pointer (some ⟨r,0,none⟩)))=>a6S HI.out hR1 hH1 (n:=n) n0 n1 hB3)
 have H4:=Lib.hid (λ(W1:World) (hR1:Rd w0 r A c xs (i+(Num.put 2).length+(a.b).length+(Num.put n).length) W1) {H:Nat} (hH1:W1.cell? ⟨H,0,none⟩=some (.pointer (some ⟨r,0,none⟩)))=>a6S HI.out hR1 hH1 (n:=e) e0 e1 hB4)
 have HJ:=Lib.hid (show i+(Num.put 2++(a.b++(Num.put n++Num.put e))).length=i+(Num.put 2).length+(a.b).length+(Num.put n).length+(Num.put e).length from by simp only[aeL];omega)
 show Calls _ _ _ _ (Hw w0 r A c xs (i+(Num.put 2++(a.b++(Num.put n++Num.put e))).length) W _)
 rw[HJ.out]
 generalize i+(Num.put 2).length=j1 at *
 generalize j1+(a.b).length=j2 at *
 generalize j2+(Num.put n).length=j3 at *
 generalize j3+(Num.put e).length=l at *
 clear hA hA0 hB1 hB2 hB3 hB4 hA1 hA2 hA3 HJ
 have HPRE:=Lib.hid (show(JmV.br a n e).pre=[.int .u8 2]++(a.c++[.int .i64 0,.int .i64 n,.int .i64 e])from rfl)
 have acl:a.c.length=5:=OpV.GK a
 have aco:=Lib.hid a.one
 generalize a.c=ac at *
 clear hva
 obtain⟨kd,ek⟩:∃kd:Int,kd=2:=⟨_,rfl⟩
 rotate_left
 obtain rfl:ops=[]:=hv
 have hA0:At xs i (Num.put 3):=hA
 have hB1:=hA0
 have H1:=Lib.hid (λ(W1:World) (hR1:Rd w0 r A c xs (i) W1)=>lG HI.out hR1 (n:=3) (lo:=1) (hi:=5) hB1 (by decide) (by decide) (by decide) (by decide))
 have HJ:=Lib.hid (show i+(Num.put 3).length=i+(Num.put 3).length from rfl)
 show Calls _ _ _ _ (Hw w0 r A c xs (i+(Num.put 3).length) W _)
 rw[HJ.out]
 generalize i+(Num.put 3).length=l at *
 clear hA hA0 hB1  HJ
 obtain⟨kd,ek⟩:∃kd:Int,kd=3:=⟨_,rfl⟩
 rotate_left
 obtain rfl:ops=[]:=hv
 have hA0:At xs i (Num.put 5):=hA
 have hB1:=hA0
 have H1:=Lib.hid (λ(W1:World) (hR1:Rd w0 r A c xs (i) W1)=>lG HI.out hR1 (n:=5) (lo:=1) (hi:=5) hB1 (by decide) (by decide) (by decide) (by decide))
 have HJ:=Lib.hid (show i+(Num.put 5).length=i+(Num.put 5).length from rfl)
 show Calls _ _ _ _ (Hw w0 r A c xs (i+(Num.put 5).length) W _)
 rw[HJ.out]
 generalize i+(Num.put 5).length=l at *
 clear hA hA0 hB1  HJ
 obtain⟨kd,ek⟩:∃kd:Int,kd=5:=⟨_,rfl⟩
 rotate_left
 obtain⟨⟨f0,f1⟩,⟨n0,n1⟩,hvq,hol,hok⟩:=hv
 rw[show(JmV.call f q n).b ops=Num.put 4++(Num.put f++((Num.put (ops.length:Nat)++ops.flatMap OpV.b)++(q.b++Num.put n)))from by simp[JmV.b,wX,af9]]at hA |-
 have hA0:At xs i (Num.put 4++(Num.put f++((Num.put (ops.length:Nat)++ops.flatMap OpV.b)++(q.b++Num.put n)))):=hA
 have hB1:=hA0.left
 have hA1:=hA0.right
 have hB2:=hA1.left
 have hA2:=hA1.right
 have hB3:=hA2.left
 have hA3:=hA2.right
 have hB4:=hA3.left
 have hA4:=hA3.right
 have hB5:=hA4
 have H1:=Lib.hid (λ(W1:World) (hR1:Rd w0 r A c xs (i) W1)=>lG HI.out hR1 (n:=4) (lo:=1) (hi:=5) hB1 (by decide) (by decide) (by decide) (by decide))
 have H2:=Lib.hid (λ(W1:World) (hR1:Rd w0 r A c xs (i+(Num.put 4).length) W1)=>tC HI.out hR1 (n:=f) (lo:=0) (hi:=7) hB2 (by decide) f0 f1 (by decide))
 have H3:=Lib.hid (λ(W1:World) (hR1:Rd w0 r A c xs (i+(Num.put 4).length+(Num.put f).length) W1)=>a4T (.inl ⟨rfl,rfl,rfl,rfl,rfl⟩) HI.out hR1 (X:=r) (El:=λa _ cs=>cs=OpV.c a) (λ_ _ _ _ h _=>h) (b:=OpV.b) (ls:=ops) (lo:=0) (hi:=8) (by decide) (afa _) (by omega) (by decide) hB3 (λa ha W1 j k1 r1 a1=>(EP HI.out r1 (hok a ha) a1).mono (λe W2 h=>h.ex (λ_=>⟨a.c,rfl,a.GK,a.one,rfl⟩))))
 have H4:=Lib.hid (λ(W1:World) (hR1:Rd w0 r A c xs (i+(Num.put 4).length+(Num.put f).length+((Num.put (ops.length:Nat)++ops.flatMap OpV.b)).length) W1)=>SK HI.out hR1 (p:=q) hvq hB4)
 have H5:=Lib.hid (λ(W1:World) (hR1:Rd w0 r A c xs (i+(Num.put 4).length+(Num.put f).length+((Num.put (ops.length:Nat)++ops.flatMap OpV.b)).length+(q.b).length) W1) {H:Nat} (hH1:W1.cell? ⟨H,0,none⟩=some (.pointer (some ⟨r,0,none⟩)))=>a6S HI.out hR1 hH1 (n:=n) n0 n1 hB5)
 have HJ:=Lib.hid (show i+(Num.put 4++(Num.put f++((Num.put (ops.length:Nat)++ops.flatMap OpV.b)++(q.b++Num.put n)))).length=i+(Num.put 4).length+(Num.put f).length+((Num.put (ops.length:Nat)++ops.flatMap OpV.b)).length+(q.b).length+(Num.put n).length from by simp only[aeL];omega)
 show Calls _ _ _ _ (Hw w0 r A c xs (i+(Num.put 4++(Num.put f++((Num.put (ops.length:Nat)++ops.flatMap OpV.b)++(q.b++Num.put n)))).length) W _)
 rw[HJ.out]
 generalize i+(Num.put 4).length=j1 at *
 generalize j1+(Num.put f).length=j2 at *
 generalize j2+((Num.put (ops.length:Nat)++ops.flatMap OpV.b)).length=j3 at *
 generalize j3+(q.b).length=j4 at *
 generalize j4+(Num.put n).length=l at *
 clear hA hA0 hB1 hB2 hB3 hB4 hB5 hA1 hA2 hA3 hA4 HJ
 have HPOST:=Lib.hid (show(JmV.call f q n).post=q.c from rfl)
 have qcl:q.c.length=3:=PlV.OB q
 have qco:=Lib.hid q.one
 generalize q.c=qc at *
 clear hvq hok
 obtain⟨kd,ek⟩:∃kd:Int,kd=4:=⟨_,rfl⟩
 rotate_left
 all_goals(
  go_enter Tryz.func171,Tryz.ntmps171
  go_upto_region 3 with(first |(go_at_call 201;refine(H1.out _ ((HR.out.alloc _).alloc _)).mono ?_;rintro e w1 ⟨rfl,rd1,kp1⟩)|(refine Bx.new rfl rfl 81 _ _ rfl 81 zJ (.int .u8 kd::zJ.tail) rd1 rfl rfl (by rw[ek];rfl) Qq (fH rfl) (λw2 bx2=>?_)))
  have HKP:=Lib.hid (HRA.out.trans (kp1.mono (by simp;omega)))
  have HRB:=Lib.hid (kp1.at (k:=W.heap.size) (by simp;omega) (by omega) (dA (ay rfl)))
  have HRS:=Lib.hid (kp1.at (k:=W.heap.size+1) (by simp) (by omega) (ay (by simp)))
  have HHn:=Lib.hid (show W.heap.size+1<w1.heap.size from by have:=kp1.size;simp at this;omega)
  clear rd1 kp1 qr
  subst kd
  have q0:=bx2.cell 0 rfl
  have HB2:=Lib.hid bx2
  have qr:=bx2.low (H:=W.heap.size) (by have:=HHn.out;omega) (by omega) HRB.out
  clear bx2)
 focus
  go_upto_region 15 with(go_at_call 205;refine(H2.out _ HB2.out.rd qr).mono ?_;rintro e w3 ⟨rfl,rd3,kp3⟩;have b3:=HB2.out.call rd3 kp3;have fz3:=b3.fz 7;have ce3:=b3.cell 7 rfl)
  have b4:=b3.set 7 (.int .i64 n)
  clear b3 fz3 ce3 rd3 kp3 q0 qr
  generalize w3.setCell _ _=w4 at *
  have HBC:=Lib.hid (show Bx w0 r A c xs 81 w1 (Value.int .u8 1::(zO++([.int .i64 0,.int .i64 n,.int .i64 0]++(.slice none 0 0::zP)))) l w4 from b4)
  have HLN:((Value.int .u8 1::(zO++([.int .i64 0,.int .i64 n,.int .i64 0]++(.slice none 0 0::zP))))).length=13:=by simp[zO,zP]
  have HON:=Lib.hid (show ∀u∈(Value.int .u8 1::(zO++([.int .i64 0,.int .i64 n,.int .i64 0]++(.slice none 0 0::zP)))),u.oneCell'=true from fH rfl)
 rotate_left
 focus
  go_upto_region 8 with(first |(go_at_call 204;refine(H2.out _ HB2.out.rd).mono ?_;rintro e w3 ⟨rfl,rd3,kp3⟩)|(refine Bx.mid rfl rfl 59 _ _ rfl [.int .u8 2] zO ac ([.int .i64 0,.int .i64 0,.int .i64 0]++(.slice none 0 0::zP)) (HB2.out.call rd3 kp3) 1 (by first |rfl|simp[acl]) (by rw[acl];rfl) rfl rfl (by rw[acl];exact Ar) aco.out (λw4 bx4=>?_)))
  have HB4:=Lib.hid bx4
  clear bx4 rd3 kp3 q0 qr
  have qr:=HB4.out.low (H:=W.heap.size) (by have:=HHn.out;omega) (by omega) HRB.out
  go_upto_region 9 with(go_at_call 205;refine(H3.out _ HB4.out.rd qr).mono ?_;rintro e w5 ⟨rfl,rd5,kp5⟩;have b5:=HB4.out.call rd5 kp5;have fz5:=b5.fz 7;have ce5:=b5.a9u 7 1 (by simp[acl]) rfl)
  have b6:=b5.ach 7 1 (by simp[acl]) (.int .i64 n)
  clear b5 fz5 ce5 rd5 kp5 qr
  generalize w5.setCell _ _=w6 at *
  have HB6:=Lib.hid b6
  clear b6
  have qr:=HB6.out.low (H:=W.heap.size) (by have:=HHn.out;omega) (by omega) HRB.out
  go_upto_region 15 with(go_at_call 205;refine(H4.out _ HB6.out.rd qr).mono ?_;rintro e w7 ⟨rfl,rd7,kp7⟩;have b7:=HB6.out.call rd7 kp7;have fz7:=b7.fz 8;have ce7:=b7.a9u 8 2 (by simp[acl]) rfl)
  have b8:=b7.ach 8 2 (by simp[acl]) (.int .i64 e)
  clear b7 fz7 ce7 rd7 kp7 qr
  generalize w7.setCell _ _=w8 at *
  have HBC:=Lib.hid (show Bx w0 r A c xs 81 w1 ([Value.int .u8 2]++(ac++([Value.int .i64 0,Value.int .i64 n,Value.int .i64 e]++(Value.slice none 0 0::zP)))) l w8 from b8)
  have HLN:(([Value.int .u8 2]++(ac++([Value.int .i64 0,Value.int .i64 n,Value.int .i64 e]++(Value.slice none 0 0::zP))))).length=13:=by simp[acl,zP]
  have HON:=Lib.hid (show ∀u∈([Value.int .u8 2]++(ac++([Value.int .i64 0,Value.int .i64 n,Value.int .i64 e]++(Value.slice none 0 0::zP)))),u.oneCell'=true from bG (fH rfl) (bG aco.out (fH rfl)))
 rotate_left
 focus
  go_upto_region 15 with fail
  clear q0 qr
  have HBC:=Lib.hid (show Bx w0 r A c xs 81 w1 (Value.int .u8 3::(zO++([.int .i64 0,.int .i64 0,.int .i64 0]++(.slice none 0 0::zP)))) l w2 from HB2.out)
  have HLN:((Value.int .u8 3::(zO++([.int .i64 0,.int .i64 0,.int .i64 0]++(.slice none 0 0::zP))))).length=13:=by simp[zO,zP]
  have HON:=Lib.hid (show ∀u∈(Value.int .u8 3::(zO++([.int .i64 0,.int .i64 0,.int .i64 0]++(.slice none 0 0::zP)))),u.oneCell'=true from fH rfl)
 rotate_left
 focus
  go_upto_region 15 with fail
  clear q0 qr
  have HBC:=Lib.hid (show Bx w0 r A c xs 81 w1 (Value.int .u8 5::(zO++([.int .i64 0,.int .i64 0,.int .i64 0]++(.slice none 0 0::zP)))) l w2 from HB2.out)
  have HLN:((Value.int .u8 5::(zO++([.int .i64 0,.int .i64 0,.int .i64 0]++(.slice none 0 0::zP))))).length=13:=by simp[zO,zP]
  have HON:=Lib.hid (show ∀u∈(Value.int .u8 5::(zO++([.int .i64 0,.int .i64 0,.int .i64 0]++(.slice none 0 0::zP)))),u.oneCell'=true from fH rfl)
 rotate_left
 focus
  go_upto_region 12 with(go_at_call 111;refine(H2.out _ HB2.out.rd).mono ?_;rintro e w3 ⟨rfl,rd3,kp3⟩;have b3:=HB2.out.call rd3 kp3;have fz3:=b3.fz 6;have ce3:=b3.cell 6 rfl)
  have b4:=b3.set 6 (.int .i64 f)
  clear b3 fz3 ce3 rd3 kp3 q0 qr
  generalize w3.setCell _ _=w4 at *
  have HB4:=Lib.hid b4
  clear b4
  have qr:=HB4.out.low (H:=W.heap.size) (by have:=HHn.out;omega) (by omega) HRB.out
  go_upto_region 13 with(go_at_call 206;refine(H3.out _ HB4.out.rd).mono ?_;rintro e w5 ⟨av,rfl,rd5,kp5,els,own5,all5⟩;obtain rfl:=a7Q all5;obtain⟨Aa,ca,rfl⟩:=own5.slice;have b5:=HB4.out.call rd5 kp5;have fz5:=b5.fz 9;have ce5:=b5.cell 9 rfl)
  rw[af4]at *
  have b6:=b5.set 9 (.slice Aa ops.length ca)
  have HOW6:=Lib.hid (((own5.base (B':=w1.heap.size+1) (by have:=HB4.out.lt;omega)).hold (aeM _) (Hold.set w5 ⟨w1.heap.size,9,none⟩ (.slice Aa ops.length ca) (afF _))))
  clear b5 fz5 ce5 rd5 kp5 qr own5 all5
  generalize w5.setCell _ _=w6 at *
  have HB6:=Lib.hid b6
  clear b6
  have qr:=HB6.out.low (H:=W.heap.size) (by have:=HHn.out;omega) (by omega) HRB.out
  go_upto_region 14 with(first |(go_at_call 202;refine(H4.out _ HB6.out.rd).mono ?_;rintro e w7 ⟨rfl,rd7,kp7⟩)|(refine Bx.aeB rfl rfl 57 _ _ rfl [.int .u8 4,.int .u8 0,.int .i64 0,.int .i64 0,.bool false,.int .u8 0,.int .i64 f,.int .i64 0,.int .i64 0,.slice Aa ops.length ca] zP qc [] (HB6.out.call rd7 kp7) 10 (by first |rfl|simp[qcl]) (by rw[qcl];rfl) rfl rfl (by rw[qcl];exact plR) qco.out (λw8 bx8 hd8=>?_)))
  have HB8:=Lib.hid bx8
  have HOW8:=Lib.hid ((HOW6.out.kp (by have:=HHn.out;omega) kp7).hold (aeM _) hd8)
  clear bx8 hd8 rd7 kp7 qr
  have qr:=HB8.out.low (H:=W.heap.size) (by have:=HHn.out;omega) (by omega) HRB.out
  go_upto_region 15 with(go_at_call 205;refine(H5.out _ HB8.out.rd qr).mono ?_;rintro e w9 ⟨rfl,rd9,kp9⟩;have b9:=HB8.out.call rd9 kp9;have fz9:=b9.fz 7;have ce9:=b9.cell 7 rfl)
  have b10:=b9.set 7 (.int .i64 n)
  have HOW10:=Lib.hid ((HOW8.out.kp (by have:=HHn.out;omega) kp9).hold (aeM _) (Hold.set w9 ⟨w1.heap.size,7,none⟩ (.int .i64 n) (afF _)))
  clear b9 fz9 ce9 rd9 kp9 qr
  generalize w9.setCell _ _=w10 at *
  have HBC:=Lib.hid (show Bx w0 r A c xs 81 w1 ([Value.int .u8 4,.int .u8 0,.int .i64 0,.int .i64 0,.bool false,.int .u8 0,.int .i64 f,.int .i64 n,.int .i64 0,.slice Aa ops.length ca]++(qc++[])) l w10 from b10)
  have HLN:(([Value.int .u8 4,.int .u8 0,.int .i64 0,.int .i64 0,.bool false,.int .u8 0,.int .i64 f,.int .i64 n,.int .i64 0,.slice Aa ops.length ca]++(qc++[]))).length=13:=by simp[qcl]
  have HON:=Lib.hid (show ∀u∈([Value.int .u8 4,.int .u8 0,.int .i64 0,.int .i64 0,.bool false,.int .u8 0,.int .i64 f,.int .i64 n,.int .i64 0,.slice Aa ops.length ca]++(qc++[])),u.oneCell'=true from bG (fH rfl) (bG qco.out (fH rfl)))
 rotate_left
 all_goals(
  go_wp2_with (first |(refine ahQ rfl 81 _ rfl w1.heap.size rfl 81 _ (0,0) _ HBC.out.bx Tryz.underlying81 rfl (by rw[afw,HLN];exact Qq) ?_)|(refine HBC.out.out rfl rfl 81 _ _ rfl (W.heap.size+1) HHn.out (by omega) zJ 81 HRS.out (by rw[HLN];rfl) rfl rfl (by rw[HLN];exact Qq) HON.out (λhh9=>?_)))
  refine ahP (ahN rfl _ _ (W.heap.size+1) 81 _ (0,0) _ rfl hh9 Tryz.underlying81 rfl (by rw[afw,HLN];exact Qq)) rfl ?_
  have hfin:=HBC.out.fin (H:=W.heap.size+1) HKP.out hlt hbs (by omega) _ rfl)
 ·exact⟨_,rfl,hfin.2.1,hfin.2.2,.slice none 0 0,rfl,Own.nil _ _ _ _⟩
 ·exact⟨_,rfl,hfin.2.1,hfin.2.2,.slice none 0 0,(by rw[HPRE.out];simp[JmV.post]),Own.nil _ _ _ _⟩
 ·exact⟨_,rfl,hfin.2.1,hfin.2.2,.slice none 0 0,rfl,Own.nil _ _ _ _⟩
 ·exact⟨_,rfl,hfin.2.1,hfin.2.2,.slice none 0 0,rfl,Own.nil _ _ _ _⟩
 ·exact⟨_,rfl,hfin.2.1,hfin.2.2,.slice Aa ops.length ca,(by rw[HPOST.out];simp[JmV.pre,zO]),((HOW10.out.hold (aeM _) (Hold.row _ _ _ (by have:=HHn.out;omega))).base (by have:=HHn.out;omega))⟩
theorem a3e:(Tryz.prog.info? 99).map (·.size)=some 14:=by kernel_rfl
def zB:List Value:=.slice none 0 0::zJ
theorem Bx.fresh {w0:World}{r:Nat}{A:Option Addr}{c:Nat}{xs:List Int}{W1:World}{i:Nat}(h:Rd w0 r A c xs i W1)(T:TypeId)(z:List Value):Bx w0 r A c xs T W1 z i (W1.alloc (.cells z.toArray T (0,0))):=
 ⟨h.alloc _,(Kp.refl r _ W1).alloc (aeM _) _,ay rfl,h.lt,h.b.size⟩
theorem JmV.acV (j:JmV):j.pre.length=9:=by cases j<;>simp[JmV.pre,zO,OpV.GK]
theorem JmV.OB (j:JmV):j.post.length=3:=by cases j<;>rfl
theorem JmV.aaV (j:JmV):∀u∈j.pre,u.oneCell'=true:=by
 cases j with
 |br a n e=>exact bG (l:=[_]) (fH rfl) (bG a.one (fH rfl))
 |_=>exact fH rfl
theorem JmV.aaD (j:JmV):∀u∈j.post,u.oneCell'=true:=by
 cases j with
 |call f q n=>exact q.one
 |_=>exact fH rfl
theorem a8w {ss:List StV}{els:List (List Value)}(h:au (λ(a:StV) cs=>cs=a.c) ss els):els=ss.map StV.c:=by
 induction ss generalizing els with
 |nil=>cases els with
  |nil=>rfl
  |cons _ _=>exact h.elim
 |cons a ops ih=>cases els with
  |nil=>exact h.elim
  |cons x els=>rw[afr,h.1,ih h.2]
theorem StV.a3V (s:StV):s.c.length=26:=by cases s<;>simp[StV.c,zO,zP,zR,OpV.GK,PlV.OB,RvV.Xi]
theorem StV.cell1 (s:StV):∀u∈s.c,u.oneCell'=true:=by
 cases s with
 |asg q v=>exact bG (l:=[_]) (fH rfl) (bG q.one (bG v.one (fH rfl)))
 |one m a=>exact bG (l:=[_]) (fH rfl) (bG (l:=zP) (fH rfl) (bG (l:=zR) (fH rfl) (bG a.one (fH rfl))))
 |fresh l=>exact fH rfl
def ER (r:Nat)(v:BlV)(W:World)(cs:List Value):Prop:=∃s a,cs=s::(v.j.pre++(a::v.j.post))/\Own W (r+1) 63 26 s (v.ss.map StV.c)/\Own W (r+1) 59 5 a (v.ops.map OpV.c)
theorem ER.keep {r:Nat}{v:BlV}{W W':World}{cs:List Value}{T:TypeId}(h:ER r v W cs)(h1:63≠T)(h2:59≠T)(hk:Lib.OthersKept T (some r) W W'):ER r v W' cs:=by
 obtain⟨s,a,e,o1,o2⟩:=h
 exact⟨s,a,e,o1.keep (afF r) h1 hk,o2.keep (afF r) h2 hk⟩
theorem JmV.a9m (j:JmV)(av:Value):(j.pre++(av::j.post)).length=13:=by simp[JmV.acV,JmV.OB]
theorem Bx.aen {P:Program}{ops:Array Oper}{rest:List Oper}{op:Oper}{a:Act}{W:World}{Q:Exit->Act->World->Prop}{w0:World}{r:Nat}{A:Option Addr}{c:Nat}{xs:List Int}{T:TypeId}{W1:World}{i:Nat}(hgd:op.guard=none)(hd:op.dst=none)(ty:TypeId)(x y:Operand)(ho:op.op=.store ty x y)(p o v q:List Value)(h:Bx w0 r A c xs T W1 (p++(o++q)) i W)
  (n:Nat) (hn:p.length=n) (hov:o.length=v.length) (hx:a.eval x=.pointer (some ⟨W1.heap.size,n,none⟩)) (hy:a.eval y=.agg v.toArray) (hi:(P.info? ty).map (·.size)=some v.length) (h1:∀u∈v,u.oneCell'=true)
  (k:∀W',Bx w0 r A c xs T W1 (p++(v++q)) i W'->Lib.OthersKept T (some r) W W'->wpList P ops Q rest a W'):wpList P ops Q (op::rest) a W:=by
 refine vU hgd ty x y ho hd W1.heap.size n v hx hy h.bx (by simp only[aeL];omega) hi h1 λW' g1 g2 g3 g4=>k W' ⟨h.rd.put (by have:=h.rl;omega) h.w0 g2 g4,h.kp.trans ⟨by rw[g3];exact aeM _,λi hi hr=>g2 i (by omega)⟩,?_,h.rl,h.w0⟩ (λk o hk _ ho=>?_)
 ·have e1:(p++(o++q)).take n=p:=by rw[<-hn];exact List.take_left
  have e2:(p++(o++q)).drop (n+v.length)=q:=by rw[<-hn,<-hov,<-af9,<-aeL];exact List.drop_left
  rw[e1,e2]at g1
  exact g1
 ·by_cases e:k=W1.heap.size
  ·subst e
   have:=hk.symm.trans h.bx
   exact absurd (afE this) (ho _ _)
  ·exact(g2 k e).trans hk
theorem MW {w0:World}{r:Nat}{A:Option Addr}{c:Nat}{xs:List Int}{T:TypeId}{W1:World}{cs:List Value}{i:Nat}{W:World}(h:Bx w0 r A c xs T W1 cs i W){H:Nat}(hH:H<W1.heap.size)(hr:H≠r){z:Array Value}(hz:W1.heap[H]? =some (.cells z T (0,0)))(cs':Array Value):Lib.OthersKept T (some r) W (W.setRow H cs'):=Lib.OthersKept.setRow (Lib.OthersKept.refl T (some r) W) ((h.kp.blk H hH hr).trans hz) cs'
theorem acM {w0:World}{r:Nat}{A:Option Addr}{c:Nat}{xs:List Int}(hI:Inp w0 r A c xs){i:Nat}{W:World}(hR:Rd w0 r A c xs i W){v:BlV}(hv:v.ok)(hA:At xs i v.b):
  Calls Tryz.prog 115 #[.pointer (some ⟨r,0,none⟩)] W (Hw w0 r A c xs (i+v.b.length) W (ElR (ER r v) 14)):=by
 have HI:=Lib.hid hI
 have HR:=Lib.hid hR
 have hlt:=hR.lt
 have h0:=hI.r
 have hbs:=hR.b.size
 have hn:=hv.n
 have hok:=hv.s
 have hj:=hv.j
 have HKP:=Lib.hid ((Kp.refl r W.heap.size W).alloc (aeM _) (.cells zB.toArray 99 (0,0)))
 have hmf:∀(fn:Fn) (first cap:Array Value) (w:World),(Instr.makeFunc fn first cap).run Tryz.prog w=.ok (.func fn first cap) w:=λ_ _ _ _=>rfl
 rw[show v.b=(Num.put (v.ss.length:Nat)++v.ss.flatMap StV.b)++v.j.b v.ops from by simp[BlV.b,Kz,af9]]at hA |-
 have hB1:=hA.left
 have hB2:=hA.right
 have H1:=Lib.hid (λ(W1:World) (hR1:Rd w0 r A c xs i W1)=>a4T (.inr (.inl ⟨rfl,rfl,rfl,rfl,rfl⟩)) HI.out hR1 (X:=r) (El:=λa _ cs=>cs=StV.c a) (λ_ _ _ _ h _=>h) (b:=StV.b) (ls:=v.ss) (lo:=0) (hi:=24) (by decide) (afa _) (by omega) (by decide) hB1 (λa ha W1 j k1 r1 a1=>(abO HI.out r1 (hok a ha) a1).mono (λe W2 h=>h.ex (λ_=>⟨a.c,rfl,a.a3V,a.cell1,rfl⟩))))
 have H2:=Lib.hid (λ(W1:World) (hR1:Rd w0 r A c xs _ W1)=>ac9 HI.out hR1 hj hB2)
 have HJ:=Lib.hid (show((Num.put (v.ss.length:Nat)++v.ss.flatMap StV.b)++v.j.b v.ops).length=(Num.put (v.ss.length:Nat)++v.ss.flatMap StV.b).length+(v.j.b v.ops).length from aeL)
 rw[HJ.out,<-afZ]
 generalize i+(Num.put (v.ss.length:Nat)++v.ss.flatMap StV.b).length=j at *
 generalize j+(v.j.b v.ops).length=l at *
 clear hA hB1 hB2 hI hR hv hok hj HJ
 have HRS:=Lib.hid (show(W.alloc (.cells zB.toArray 99 (0,0))).heap[W.heap.size]? =some (.cells zB.toArray 99 (0,0))from ay rfl)
 have HB1:=Lib.hid (Bx.fresh (HR.out.alloc (.cells zB.toArray 99 (0,0))) 99 zB)
 obtain⟨w1,hw1⟩:∃w1,w1=W.alloc (.cells zB.toArray 99 (0,0)):=⟨_,rfl⟩
 have hs1:w1.heap.size=W.heap.size+1:=by rw[hw1];simp
 go_enter Tryz.func115,Tryz.ntmps115
 go_upto_region 2 with fail
 generalize hw:World.alloc (World.alloc W _) _=w2
 have HS1:=Lib.hid (show W.heap.size<w1.heap.size by omega)
 rw[<-hs1]at *
 have HB2:=Lib.hid (show Bx w0 r A c xs 99 w1 zB i w2 from by rw[<-hw,hw1];exact HB1.out)
 have HKP1:=Lib.hid (show Kp r W.heap.size W w1 from by rw[hw1];exact HKP.out)
 have HRS1:=Lib.hid (show w1.heap[W.heap.size]? =some (.cells zB.toArray 99 (0,0))from by rw[hw1];exact HRS.out)
 have HHn:=HS1
 have hhn:=HS1.out
 clear HB1 HKP HRS hw hw1
 go_upto_region 3 with(go_at_call 169;refine(H1.out _ HB2.out.rd).mono ?_;rintro e w3 ⟨sv,rfl,rd3,kp3,els,own3,YH⟩;obtain rfl:=a8w YH;obtain⟨As,cs,rfl⟩:=own3.slice;have b3:=HB2.out.call rd3 kp3;have fz3:=b3.fz 0;have ce3:=b3.cell 0 rfl)
 rw[af4]at *
 have b4:=b3.set 0 (.slice As v.ss.length cs)
 have HOS:=Lib.hid ((own3.base (B':=r+1) (by have:=HB2.out.lt;omega)).keep (afF r) (by decide) (Lib.OthersKept.setRowCell (Lib.OthersKept.refl 99 (some r) w3) b3.bx 0 (.slice As v.ss.length cs)))
 clear b3 fz3 ce3 rd3 kp3 own3 YH
 generalize w3.setCell _ _=w4 at *
 have HB4:=Lib.hid b4
 clear b4
 go_upto_region 4 with(first |(go_at_call 171;refine(H2.out _ HB4.out.rd).mono ?_;rintro e w5 ⟨jv,rfl,rd5,kp5,av,rfl,own5⟩;obtain⟨Aa,ca,rfl⟩:=own5.slice;rw[af4]at own5)|(refine Bx.aen rfl rfl 81 _ _ rfl [.slice As v.ss.length cs] zJ (v.j.pre++(.slice Aa v.ops.length ca::v.j.post)) [] (HB4.out.call rd5 kp5) 1 rfl (by rw[JmV.a9m];rfl) rfl rfl (by rw[JmV.a9m];exact Qq) (bG v.j.aaV (bG (l:=[_]) (fH rfl) v.j.aaD)) (λw6 b6 o6=>?_)))
 have HOS6:=Lib.hid ((HOS.out.kp (afF r) kp5).keep (afF r) (by decide) o6)
 have HOA6:=Lib.hid (own5.keep (afF r) (by decide) o6)
 have HSV:(Value.slice As v.ss.length cs).oneCell'=true:=rfl
 have HAV:(Value.slice Aa v.ops.length ca).oneCell'=true:=rfl
 generalize Value.slice As v.ss.length cs=sv at *
 generalize Value.slice Aa v.ops.length ca=av at *
 have HBC:=Lib.hid (show Bx w0 r A c xs 99 w1 ([sv]++((v.j.pre++(av::v.j.post))++[])) l w6 from b6)
 have HLN:([sv]++((v.j.pre++(av::v.j.post))++[])).length=14:=by simp[JmV.acV,JmV.OB]
 clear b6 o6 rd5 kp5 own5 HOS
 go_wp2_with (first |(refine ahQ rfl 99 _ rfl w1.heap.size rfl 99 _ (0,0) _ HBC.out.bx Tryz.underlying99 rfl (by rw[afw,HLN];exact a3e) ?_)|(refine HBC.out.out rfl rfl 99 _ _ rfl W.heap.size HHn.out (by omega) zB 99 HRS1.out (by rw[HLN];rfl) rfl rfl (by rw[HLN];exact a3e) (bG (fH (by simp[HSV])) (bG (bG v.j.aaV (bG (l:=[_]) (fH (by simp[HAV])) v.j.aaD)) (fH rfl))) (λhh9=>?_)))
 refine ahP (ahN rfl _ _ W.heap.size 99 _ (0,0) _ rfl hh9 Tryz.underlying99 rfl (by rw[afw,HLN];exact a3e)) rfl ?_
 have hfin:=HBC.out.fin (H:=W.heap.size) HKP1.out hlt hbs (by omega) _ rfl
 have ho9:=MW HBC.out HHn.out (by omega) HRS1.out (([sv]++((v.j.pre++(av::v.j.post))++[]))).toArray
 exact⟨_,rfl,hfin.2.1,hfin.2.2,([sv]++((v.j.pre++(av::v.j.post))++[])),rfl,HLN,(bG (fH (by simp[HSV])) (bG (bG v.j.aaV (bG (l:=[_]) (fH (by simp[HAV])) v.j.aaD)) (fH rfl))),⟨sv,av,by simp,HOS6.out.keep (afF r) (by decide) ho9,HOA6.out.keep (afF r) (by decide) ho9⟩⟩
