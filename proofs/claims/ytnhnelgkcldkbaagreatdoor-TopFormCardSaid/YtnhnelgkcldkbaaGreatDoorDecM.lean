/- decode: statements. decode: rows that are being filled while the reader goes on. decode's list: its instances. -/
import Derived.Test.YtnhnelgkcldkbaaGreatDoorDecR
import Derived.Great.Walk
set_option linter.all false
set_option maxHeartbeats 8000000
set_option maxRecDepth 100000
namespace Go.Proofs.YtnhnelgkcldkbaaGreatDoor
namespace enc
open Go.RowKit Am loan bld
def zS:List Value:=.int .u8 0::(zP++(zR++(zO++[.int .i64 0])))
theorem WG:(Tryz.prog.info? 63).map (·.size)=some 26:=by kernel_rfl
theorem RvV.Xi (v:RvV):v.c.length=16:=by cases v<;>simp[RvV.c,zO,zP,OpV.GK,PlV.OB]
theorem RvV.one (v:RvV):∀u∈v.c,u.oneCell'=true:=by
 cases v with
 |use a=>exact bG (l:=[_,_,_]) (fH rfl) (bG a.one (fH rfl))
 |bin o a b=>exact bG (l:=[_,_,_]) (fH rfl) (bG a.one (bG b.one (fH rfl)))
 |two a b=>exact bG (l:=[_,_,_]) (fH rfl) (bG a.one (bG b.one (fH rfl)))
 |ref o q=>exact bG (l:=[_,_,_]) (fH rfl) (bG (l:=zO) (fH rfl) (bG (l:=zO) (fH rfl) q.one))
 |raw q=>exact bG (l:=[_,_,_]) (fH rfl) (bG (l:=zO) (fH rfl) (bG (l:=zO) (fH rfl) q.one))
theorem abO {w0:World}{r:Nat}{A:Option Addr}{c:Nat}{xs:List Int}(hI:Inp w0 r A c xs){i:Nat}{W:World}(hR:Rd w0 r A c xs i W){v:StV}(hv:v.ok)(hA:At xs i v.b):
  Calls Tryz.prog 170 #[.pointer (some ⟨r,0,none⟩)] W (Got w0 r A c xs (i+v.b.length) W (.agg v.c.toArray)):=by
 have HI:=Lib.hid hI
 have HR:=Lib.hid hR
 have hlt:=hR.lt
 have h0:=hI.r
 have hbs:=hR.b.size
 have HRA:=Lib.hid ((Kp.refl r W.heap.size W).alloc (aeM _) (.cells zS.toArray 63 (0,0)))
 clear hI hR
 rcases v with⟨q,v⟩|⟨m,a⟩|lo
 obtain⟨hvq,hvr⟩:=hv
 have hA0:At xs i (Num.put 1++(q.b++(v.b))):=hA
 have hB1:=hA0.left
 have hA1:=hA0.right
 have hB2:=hA1.left
 have hA2:=hA1.right
 have hB3:=hA2
 have H1:=Lib.hid (λ(W1:World) (hR1:Rd w0 r A c xs (i) W1)=>lG HI.out hR1 (n:=1) (lo:=1) (hi:=4) hB1 (by decide) (by decide) (by decide) (by decide))
 have H2:=Lib.hid (λ(W1:World) (hR1:Rd w0 r A c xs (i+(Num.put 1).length) W1)=>SK HI.out hR1 (p:=q) hvq hB2)
 have H3:=Lib.hid (λ(W1:World) (hR1:Rd w0 r A c xs (i+(Num.put 1).length+(q.b).length) W1)=>acn HI.out hR1 (v:=v) hvr hB3)
 have HJ:=Lib.hid (show i+(StV.asg q v).b.length=i+(Num.put 1).length+(q.b).length+(v.b).length from by show i+(Num.put 1++(q.b++(v.b))).length=_;simp only[aeL];omega)
 rw[HJ.out]
 generalize i+(Num.put 1).length=j1 at *
 generalize j1+(q.b).length=j2 at *
 generalize j2+(v.b).length=l at *
 clear hA hA0 hB1 hB2 hB3 hA1 hA2 HJ
 show Calls _ _ _ _ (Got w0 r A c xs l W (.agg ([Value.int .u8 1]++(q.c++(v.c++(zO++[Value.int .i64 0])))).toArray))
 have qcl:q.c.length=3:=PlV.OB q
 have qco:=Lib.hid q.one
 generalize q.c=qc at *
 have vcl:v.c.length=16:=RvV.Xi v
 have vco:=Lib.hid v.one
 generalize v.c=vc at *
 clear hvq hvr
 obtain⟨kd,ek⟩:∃kd:Int,kd=1:=⟨_,rfl⟩
 rotate_left
 have hm:1<=kdO m/\kdO m<=4/\kdO m≠1/\kdO m≠3:=by cases m<;>decide
 obtain⟨m0,m1,m2,m3⟩:=hm
 have m4:(kdO m==1)=false:=by simpa using m2
 have m5:(kdO m==3)=false:=by simpa using m3
 have hA0:At xs i (Num.put (kdO m)++(a.b)):=hA
 have hB1:=hA0.left
 have hA1:=hA0.right
 have hB2:=hA1
 have H1:=Lib.hid (λ(W1:World) (hR1:Rd w0 r A c xs (i) W1)=>lG HI.out hR1 (n:=(kdO m)) (lo:=1) (hi:=4) hB1 (by decide) m0 m1 (by decide))
 have H2:=Lib.hid (λ(W1:World) (hR1:Rd w0 r A c xs (i+(Num.put (kdO m)).length) W1)=>EP HI.out hR1 (a:=a) hv hB2)
 have HJ:=Lib.hid (show i+(StV.one m a).b.length=i+(Num.put (kdO m)).length+(a.b).length from by show i+(Num.put (kdO m)++(a.b)).length=_;simp only[aeL];omega)
 rw[HJ.out]
 generalize i+(Num.put (kdO m)).length=j1 at *
 generalize j1+(a.b).length=l at *
 clear hA hA0 hB1 hB2 hA1 HJ
 show Calls _ _ _ _ (Got w0 r A c xs l W (.agg (([Value.int .u8 (kdO m)]++(zP++zR))++(a.c++[Value.int .i64 0])).toArray))
 have acl:a.c.length=5:=OpV.GK a
 have aco:=Lib.hid a.one
 generalize a.c=ac at *
 clear hv
 generalize kdO m=km at *
 obtain⟨kd,ek⟩:∃kd:Int,kd=km:=⟨_,rfl⟩
 rotate_left
 obtain⟨l0,l1⟩:=hv
 have hA0:At xs i (Num.put 3++(Num.put lo)):=hA
 have hB1:=hA0.left
 have hA1:=hA0.right
 have hB2:=hA1
 have H1:=Lib.hid (λ(W1:World) (hR1:Rd w0 r A c xs (i) W1)=>lG HI.out hR1 (n:=3) (lo:=1) (hi:=4) hB1 (by decide) (by decide) (by decide) (by decide))
 have H2:=Lib.hid (λ(W1:World) (hR1:Rd w0 r A c xs (i+(Num.put 3).length) W1)=>tC HI.out hR1 (n:=lo) (lo:=0) (hi:=15) hB2 (by decide) l0 l1 (by decide))
 have HJ:=Lib.hid (show i+(StV.fresh lo).b.length=i+(Num.put 3).length+(Num.put lo).length from by show i+(Num.put 3++(Num.put lo)).length=_;simp only[aeL];omega)
 rw[HJ.out]
 generalize i+(Num.put 3).length=j1 at *
 generalize j1+(Num.put lo).length=l at *
 clear hA hA0 hB1 hB2 hA1 HJ
 show Calls _ _ _ _ (Got w0 r A c xs l W (.agg (Value.int .u8 3::(zP++(zR++(zO++[Value.int .i64 lo])))).toArray))
 obtain⟨kd,ek⟩:∃kd:Int,kd=3:=⟨_,rfl⟩
 rotate_left
 all_goals(
  go_enter Tryz.func170,Tryz.ntmps170
  go_upto_region 2 with(first |(go_at_call 201;refine(H1.out _ (HR.out.alloc _)).mono ?_;rintro e w1 ⟨rfl,rd1,kp1⟩)|(refine Bx.new rfl rfl 63 _ _ rfl 63 zS (.int .u8 kd::zS.tail) rd1 rfl rfl (by rw[ek];rfl) WG (fH rfl) (λw2 bx2=>?_)))
  have HKP:=Lib.hid (HRA.out.trans (kp1.mono (by simp)))
  have HRS:=Lib.hid (kp1.at (k:=W.heap.size) (by simp) (by omega) (ay rfl))
  have HHn:=Lib.hid (show W.heap.size<w1.heap.size from by have:=kp1.size;simp at this;omega)
  clear rd1 kp1
  subst kd
  have q0:=bx2.cell 0 rfl
  have HB2:=Lib.hid bx2
  clear bx2)
 focus
  go_upto_region 6 with(first |(go_at_call 202;refine(H2.out _ HB2.out.rd).mono ?_;rintro e w5 ⟨rfl,rd5,kp5⟩)|(refine Bx.mid rfl rfl 57 _ _ rfl [.int .u8 1] zP qc (zR++(zO++[.int .i64 0])) (HB2.out.call rd5 kp5) 1 (by first |rfl|simp[qcl]) (by rw[qcl];rfl) rfl rfl (by rw[qcl];exact plR) qco.out (λw6 bx6=>?_)))
  have HB6:=Lib.hid bx6
  clear bx6 rd5 kp5 q0
  go_upto_region 9 with(first |(go_at_call 203;refine(H3.out _ HB6.out.rd).mono ?_;rintro e w7 ⟨rfl,rd7,kp7⟩)|(refine Bx.a9M rfl rfl 61 _ _ rfl [.int .u8 1] qc zR vc (zO++[.int .i64 0]) (HB6.out.call rd7 kp7) 4 (by rw[qcl];rfl) (by rw[vcl];rfl) rfl rfl (by rw[vcl];exact Qk) vco.out (λw8 bx8=>?_)))
  clear rd7 kp7
  have HBC:=Lib.hid (show Bx w0 r A c xs 63 w1 ([Value.int .u8 1]++(qc++(vc++(zO++[Value.int .i64 0])))) l w8 from bx8)
  have HLN:([Value.int .u8 1]++(qc++(vc++(zO++[Value.int .i64 0])))).length=26:=by simp[qcl,vcl,zO]
  have HON:=Lib.hid (show ∀u∈([Value.int .u8 1]++(qc++(vc++(zO++[Value.int .i64 0])))),u.oneCell'=true from bG (fH rfl) (bG qco.out (bG vco.out (fH rfl))))
  clear bx8
 rotate_left
 focus
  go_upto_region 9 with(first |(go_at_call 204;refine(H2.out _ HB2.out.rd).mono ?_;rintro e w5 ⟨rfl,rd5,kp5⟩)|(refine Bx.mid rfl rfl 59 _ _ rfl ([.int .u8 km]++(zP++zR)) zO ac [.int .i64 0] (HB2.out.call rd5 kp5) 20 (by first |rfl|simp[acl]) (by rw[acl];rfl) rfl rfl (by rw[acl];exact Ar) aco.out (λw6 bx6=>?_)))
  clear rd5 kp5
  have HBC:=Lib.hid (show Bx w0 r A c xs 63 w1 (([Value.int .u8 km]++(zP++zR))++(ac++[Value.int .i64 0])) l w6 from bx6)
  have HLN:(([Value.int .u8 km]++(zP++zR))++(ac++[Value.int .i64 0])).length=26:=by simp[acl,zP,zR,zO]
  have HON:=Lib.hid (show ∀u∈(([Value.int .u8 km]++(zP++zR))++(ac++[Value.int .i64 0])),u.oneCell'=true from bG (fH rfl) (bG aco.out (fH rfl)))
  clear bx6 q0
 rotate_left
 focus
  go_upto_region 9 with(go_at_call 111;refine(H2.out _ HB2.out.rd).mono ?_;rintro e w3 ⟨rfl,rd3,kp3⟩;have b3:=HB2.out.call rd3 kp3;have fz3:=b3.fz 25;have ce3:=b3.cell 25 rfl)
  have b4:=b3.set 25 (.int .i64 lo)
  clear b3 fz3 ce3 rd3 kp3
  generalize w3.setCell _ _=w4 at *
  have HBC:=Lib.hid (show Bx w0 r A c xs 63 w1 (Value.int .u8 3::(zP++(zR++(zO++[Value.int .i64 lo])))) l w4 from b4)
  have HLN:(Value.int .u8 3::(zP++(zR++(zO++[Value.int .i64 lo])))).length=26:=by simp[zP,zR,zO]
  have HON:=Lib.hid (show ∀u∈(Value.int .u8 3::(zP++(zR++(zO++[Value.int .i64 lo])))),u.oneCell'=true from fH rfl)
  clear b4 q0
 rotate_left
 all_goals(
  go_wp2_with (first |(refine ahQ rfl 63 _ rfl w1.heap.size rfl 63 _ (0,0) _ HBC.out.bx Tryz.underlying63 rfl (by rw[afw,HLN];exact WG) ?_)|(refine HBC.out.out rfl rfl 63 _ _ rfl W.heap.size HHn.out (by omega) zS 63 HRS.out (by rw[HLN];rfl) rfl rfl (by rw[HLN];exact WG) HON.out (λhh9=>?_)))
  refine ahP (ahN rfl _ _ W.heap.size 63 _ (0,0) _ rfl hh9 Tryz.underlying63 rfl (by rw[afw,HLN];exact WG)) rfl ?_
  exact HBC.out.fin HKP.out hlt hbs (aeM _) _ rfl)
theorem Si {P:Program}{e:TypeId}{size:Nat}(h:(P.info? e).map (λi=>(i.zero.map (·.cells.size),i.size,decide (i.bytes<=1024)))=some (some size,size,true)):∃i z,P.info? e=some i/\i.zero=some z/\i.size=size/\z.cells.size=size/\i.bytes<=1024:=by
 cases hi:P.info? e with
 |none=>simp[hi]at h
 |some i=>
  rw[hi]at h
  simp only[agn,afI,agf,af6]at h
  obtain⟨h1,h2,h3⟩:=h
  cases hz:i.zero with
  |none=>simp[hz]at h1
  |some z=>
   rw[hz]at h1
   simp only[agn,afI]at h1
   exact⟨i,z,rfl,hz,h2,h1,h3⟩
theorem acp (W:World)(pl:Nat->Option (Nat×Nat))(C:Array Value)(cs:List Value)(hp:pl 0=some (0,cs.length))(hC:C.size=cs.length):Instr.fill pl C [(0,.agg cs.toArray)]=some cs.toArray:=by
 letI:Base:=(⟨W,[],[]⟩:Env).b
 have hD:((Value.agg cs.toArray).cells.zipIdx.foldl (λxs (p:Value×Nat)=>xs.setIfInBounds (0+p.2) p.1) C).toList=cs:=by
  show(cs.toArray.zipIdx.foldl _ C).toList=_
  rw[<-Array.foldl_toList,Array.toList_zipIdx]
  have:=DY 0 cs 0 C (by omega)
  rw[this]
  simp[hC]
 simp only[Instr.fill,hp]
 rw[afc (by simp[Value.cells];omega)]
 exact congrArg some (agX (by simpa using hD))
theorem aaz (W:World){P:Program}{e:TypeId}{cs:List Value}{size:Nat}(h:(P.info? e).map (λi=>(i.zero.map (·.cells.size),i.size,decide (i.bytes<=1024)))=some (some size,size,true))(hl:cs.length=size)(h1:0<size)(h2:size<=1000):P.builtSlice e 1 [(0,.agg cs.toArray)]=some cs.toArray:=by
 obtain⟨i,z,hi,hz,hs,hzs,hb⟩:=Si h
 unfold Program.builtSlice
 simp only[hi,hz]
 rw[afc (by rw[hs];omega)]
 exact acp W _ _ cs (by simp[hs,hl]) (by simp[hs,hl])
theorem Jy {P:Program}{ops:Array Oper}{rest:List Oper}{o:Oper}{a:Act}{Q:Exit->Act->World->Prop}{W:World}(hgd:o.guard=none)(s x:Operand)(t:TypeId)
  (ho:o.op=.call { callee:=.builtin .append,args:=#[s,x],argTypes:=#[t,t] })
  (B:Nat) (e:TypeId) (size:Nat) (ht:P.underlying t=some (.slice e)) (hrow:(P.info? e).map (λi=>(i.zero.map (·.cells.size),i.size,decide (i.bytes<=1024)))=some (some size,size,true)) (hsz:0<size)
  (v:Value) (n:Nat) (xs:List Value) (hs:a.eval s=v) (hown:W.ownsRow B e size v n xs)
  (us:List Value) (hx:a.eval x=.slice (some ⟨W.heap.size,0,none⟩) 1 1) (hl:us.length=size) (h1:∀u∈us,u.oneCell'=true)
  (hn:n<1000000) (hB:B<=W.heap.size)
  (h:∀v' w',w'.ownsRow B e size v' (n+1) (xs++us)->(W.alloc (.cells us.toArray e)).grownBy w' v.ownBlock->wpList P ops Q rest (a.put o.dst v') w'):wpList P ops Q (o::rest) a (W.alloc (.cells us.toArray e)):=by
 obtain⟨i0,z,hi,hz0,hz1,hzs,hby⟩:=Si hrow
 have hmul:(n+1)*i0.bytes<=1000000*1024:=agD (by omega) hby
 have hg:(W.alloc (.cells us.toArray e)).heap[W.heap.size]? =some (.cells us.toArray e (0,0)):=ay rfl
 refine ai5 _ hgd s x t ho B e i0 z size i0.bytes ht hi hz0 hz1 rfl hzs hsz v n xs hs (hown.alloc _) ⟨W.heap.size,0,none⟩ 1 1 us hx (by omega) (λj u hu=>?_) h1 (by simp only[maxLen];omega) (by omega) (by simp;omega) ?_
 ·rw[addr_add,afK,ahF _ W.heap.size j us.toArray e (0,0) hg]
  simpa using hu
 ·intro v' w' hown' hg' _
  exact h v' w' hown' hg'
structure Own (W:World)(B:Nat)(T:TypeId)(sz:Nat)(v:Value)(els:List (List Value)):Prop where
 own:W.ownsRow B T sz v els.length els.flatten
 len:∀x∈els,x.length=sz
theorem Own.nil (W:World)(B:Nat)(T:TypeId)(sz:Nat):Own W B T sz (.slice none 0 0) []:=⟨ahT W B T sz,λx h=>by cases h⟩
theorem Own.list {W:World}{B:Nat}{T:TypeId}{sz:Nat}{v:Value}{els:List (List Value)}(h:Own W B T sz v els):bT W v sz els:=bT.Em h.own h.len
theorem Own.slice {W:World}{B:Nat}{T:TypeId}{sz:Nat}{v:Value}{els:List (List Value)}(h:Own W B T sz v els):∃A c,v=.slice A els.length c:=by
 rcases h.own.2 with⟨rfl,h0⟩|⟨g,cap,cur,rfl,_⟩
 ·exact⟨none,0,by rw[h0]⟩
 ·exact⟨_,_,rfl⟩
theorem Own.keep {W W':World}{B:Nat}{T T':TypeId}{sz r:Nat}{v:Value}{els:List (List Value)}(h:Own W B T sz v els)(hr:r<B)(ht:T≠T')(hk:Lib.OthersKept T' (some r) W W'):Own W' B T sz v els:=by
 refine⟨?_,h.len⟩
 obtain⟨h1,h2⟩:=h.own
 refine⟨h1,?_⟩
 rcases h2 with h2|⟨g,cap,cur,rfl,hb,hg,q⟩
 ·exact .inl h2
 ·exact .inr ⟨g,cap,cur,rfl,hb,hk g _ hg (λe=>by have:=afE e;omega) (λc f e=>ht (by injection e)),q⟩
theorem Kp.others {r n:Nat}{x y:World}(h:Kp r n x y)(hn:x.heap.size<=n)(T:TypeId):Lib.OthersKept T (some r) x y:=λk o hk hr _=>(h.blk k (afe (aeN.1 hk).1 hn) (λe=>hr (by rw[e]))).trans hk
def Hw (w0:World)(r:Nat)(A:Option Addr)(c:Nat)(xs:List Int)(i:Nat)(W:World)(R:Value->World->Prop)(e:Ending)(W':World):Prop:=∃v,e=.returned v/\Rd w0 r A c xs i W'/\Kp r W.heap.size W W'/\R v W'
theorem Got.ex {w0:World}{r:Nat}{A:Option Addr}{c:Nat}{xs:List Int}{i:Nat}{W:World}{v:Value}{R:Value->World->Prop}(hR:∀W',R v W'){e:Ending}{W':World}(h:Got w0 r A c xs i W v e W'):Hw w0 r A c xs i W R e W':=⟨v,h.1,h.2.1,h.2.2,hR W'⟩
def ElR (El:World->List Value->Prop)(sz:Nat)(v:Value)(W:World):Prop:=∃cs,v=.agg cs.toArray/\cs.length=sz/\(∀u∈cs,u.oneCell'=true)/\El W cs
theorem Rd.grown {w0:World}{r:Nat}{A:Option Addr}{c:Nat}{xs:List Int}{i:Nat}{W W':World}{row:Option Nat}(h:Rd w0 r A c xs i W)(hg:W.grownBy W' row)(hr:∀k,row=some k->r<k)(h0:w0.heap.size<=r):Rd w0 r A c xs i W':=
 ⟨h.b.grown hg (h.b.size) (λk hk=>by have:=hr k hk;omega),ru hg h.x (λe=>by have:=hr r e.symm;omega)⟩
theorem Kp.grown {r n:Nat}{x y z:World}{row:Option Nat}(h:Kp r n x y)(hg:y.grownBy z row)(hn:n<=y.heap.size)(hr:∀k,row=some k->n<=k):Kp r n x z:=
 ⟨afv h.size hg.size,λi hi hne=>(hg.block i (by omega) (λe=>by have:=hr i e.symm;omega)).trans (h.blk i hi hne)⟩
theorem a0i {α β:Type}{R:α->β->Prop}{l:List α}{k:List β}{a:α}{b:β}(h:au R l k)(hb:R a b):au R (l++[a]) (k++[b]):=h.app ⟨hb,trivial⟩
theorem Own.kp {W W':World}{B:Nat}{T:TypeId}{sz r:Nat}{v:Value}{els:List (List Value)}(h:Own W B T sz v els)(hr:r<B)(k:Kp r W.heap.size W W'):Own W' B T sz v els:=⟨uX h.own λg hg=>by have:=CU h.own g hg;exact k.blk g (by omega) (by omega),h.len⟩
theorem Kw {P:Program}{ops:Array Oper}{rest:List Oper}{o:Oper}{a:Act}{W:World}{Q:Exit->Act->World->Prop}(hg:o.guard=none)(t e:TypeId)(x:Operand)(ho:o.op=.buildSlice t 1 #[(0,x)])(size:Nat)(hu:P.underlying t=some (.slice e))(hrow:(P.info? e).map (λi=>(i.zero.map (·.cells.size),i.size,decide (i.bytes<=1024)))=some (some size,size,true))(h1:0<size)(h2:size<=1000)
  (cs:List Value) (hx:a.eval x=.agg cs.toArray) (hl:cs.length=size) (h:wpList P ops Q rest (a.put o.dst (.slice (some ⟨W.heap.size,0,none⟩) 1 1)) (W.alloc (.cells cs.toArray e))):wpList P ops Q (o::rest) a W:=by
 refine Go.Great.wpList_buildSliceTo hg t e 1 _ ho _ rfl _ rfl hu cs.toArray ?_ h
 simp only[List.map_toArray,afr,agj]
 rw[hx]
 exact aaz W hrow hl h1 h2
theorem BX {W W':World}{B:Nat}{T:TypeId}{sz n r:Nat}{v:Value}{xs:List Value}(h:W.ownsRow B T sz v n xs){cs:Array Value}(hg:(W.alloc (.cells cs T (0,0))).grownBy W' v.ownBlock):Lib.OthersKept T (some r) (W.alloc (.cells cs T (0,0))) W':=
 (Lib.OthersKept.refl T (some r) _).grown hg λg hg'=>by
  rcases h.2 with⟨rfl,_⟩|⟨g2,cap,cur,rfl,_,hc,_⟩
  ·cases hg'
  ·have e:g2=g:=by simpa[Value.ownBlock]using hg'
   subst e
   exact⟨cur,(0,0),dA hc⟩
theorem take_snoc {α:Type}{l:List α}{k:Nat}{a:α}(h:l[k]? =some a):l.take (k+1)=l.take k++[a]:=by
 rw[ag6,h]
 rfl
theorem roO:(Tryz.prog.info? 59).map (λi=>(i.zero.map (·.cells.size),i.size,decide (i.bytes<=1024)))=some (some 5,5,true):=by kernel_rfl
theorem roS:(Tryz.prog.info? 63).map (λi=>(i.zero.map (·.cells.size),i.size,decide (i.bytes<=1024)))=some (some 26,26,true):=by kernel_rfl
theorem roT:(Tryz.prog.info? 88).map (λi=>(i.zero.map (·.cells.size),i.size,decide (i.bytes<=1024)))=some (some 2,2,true):=by kernel_rfl
theorem roB:(Tryz.prog.info? 99).map (λi=>(i.zero.map (·.cells.size),i.size,decide (i.bytes<=1024)))=some (some 14,14,true):=by kernel_rfl
theorem roF:(Tryz.prog.info? 40).map (λi=>(i.zero.map (·.cells.size),i.size,decide (i.bytes<=1024)))=some (some 4,4,true):=by kernel_rfl
def aeA {T:TypeId}{sz:Nat}(_:(Tryz.prog.info? T).map (λi=>(i.zero.map (·.cells.size),i.size,decide (i.bytes<=1024)))=some (some sz,sz,true)){α:Type}(El:α->World->List Value->Prop)(b:α->List Int)(ls:List α)(w0:World)(r:Nat)(A:Option Addr)(c:Nat)(xs:List Int)(j:Nat)(W:World)(g:Nat)(s9:Value)(wr:World):Prop:=∃(k:Nat) (els:List (List Value)),k<=ls.length/\g=ls.length-k/\els.length=k/\Own wr W.heap.size T sz s9 els/\au (λa cs=>El a wr cs) (ls.take k) els/\Rd w0 r A c xs (j+((ls.take k).flatMap b).length) wr/\Kp r W.heap.size W wr
theorem a4T {L F sz X:Nat}{TE:TypeId}{fv:Value}(hd:(L=206/\F=204/\TE=59/\sz=5/\fv=.func (.func F) #[.pointer (some ⟨X,0,none⟩)] #[])\/(L=169/\F=170/\TE=63/\sz=26/\fv=.func (.func F) #[.pointer (some ⟨X,0,none⟩)] #[])\/(L=112/\F=113/\TE=88/\sz=2/\fv=.func (.func F) #[] #[.pointer (some ⟨X,0,none⟩)])\/(L=114/\F=115/\TE=99/\sz=14/\fv=.func (.func F) #[.pointer (some ⟨X,0,none⟩)] #[])\/(L=56/\F=57/\TE=40/\sz=4/\fv=.func (.func F) #[.pointer (some ⟨X,0,none⟩)] #[])){w0:World}{r:Nat}{A:Option Addr}{c:Nat}{xs:List Int}(hI:Inp w0 r A c xs){i:Nat}{W:World}(hR:Rd w0 r A c xs i W){α:Type}{El:α->World->List Value->Prop}(hst:∀a W1 W2 cs,El a W1 cs->Lib.OthersKept TE (some r) W1 W2->El a W2 cs){b:α->List Int}{ls:List α}{lo hi:Int}(l0:0<=lo)(l1:lo<=(ls.length:Nat))(h1:((ls.length:Nat):Int)<=hi)(h2:hi<=1000)(hA:At xs i (Num.put (ls.length:Nat)++ls.flatMap b))
  (hF:∀a∈ls,∀W1 j,Kp r W.heap.size W W1->Rd w0 r A c xs j W1->At xs j (b a)->Calls Tryz.prog F #[.pointer (some ⟨X,0,none⟩)] W1 (Hw w0 r A c xs (j+(b a).length) W1 (ElR (El a) sz))):
  Calls Tryz.prog L #[.pointer (some ⟨r,0,none⟩),.int .i64 lo,.int .i64 hi,fv] W (Hw w0 r A c xs (i+(Num.put (ls.length:Nat)++ls.flatMap b).length) W (λv W'=>∃els,Own W' W.heap.size TE sz v els/\au (λa cs=>El a W' cs) ls els)):=by
 have HI:=Lib.hid hI
 have HR:=Lib.hid hR
 have hlt:=hR.lt
 have h0:=hI.r
 have hA1:At xs i (Num.put (ls.length:Nat)):=hA.left
 have HA2:=Lib.hid hA.right
 have H1:=Lib.hid (tC hI hR hA1 l0 l1 h1 h2)
 rw[aeL,<-afZ]
 generalize i+(Num.put (ls.length:Nat)).length=j at *
 have HF:=Lib.hid hF
 have HST:=Lib.hid hst
 have hlen:ls.length<=1000:=by omega
 clear hA hA1 hI hR hF hst
 rcases hd with⟨rfl,rfl,rfl,rfl,rfl⟩|⟨rfl,rfl,rfl,rfl,rfl⟩|⟨rfl,rfl,rfl,rfl,rfl⟩|⟨rfl,rfl,rfl,rfl,rfl⟩|⟨rfl,rfl,rfl,rfl,rfl⟩
 case' inl=>have hro:=roO;have hu:=Tryz.underlying77;go_enter Tryz.func206,Tryz.ntmps206
 case' inr.inl=>have hro:=roS;have hu:=Tryz.underlying97;go_enter Tryz.func169,Tryz.ntmps169
 case' inr.inr.inl=>have hro:=roT;have hu:=Tryz.underlying37;go_enter Tryz.func112,Tryz.ntmps112
 case' inr.inr.inr.inl=>have hro:=roB;have hu:=Tryz.underlying38;go_enter Tryz.func114,Tryz.ntmps114
 case' inr.inr.inr.inr=>have hro:=roF;have hu:=Tryz.underlying22;go_enter Tryz.func56,Tryz.ntmps56
 all_goals(
  go_wp2_with fail
  go_step3
  go_wp2_with (go_at_call 111;refine H1.out.mono ?_;rintro e w1 ⟨rfl,rd1,kp1⟩)
  go_step3
  go_wp2_with fail
  go_loopg [9] ls.length (aeA hro El b ls w0 r A c xs j W)
  case atStart=>exact⟨0,[],afb _,rfl,rfl,Own.nil _ _ _ _,trivial,by simpa using rd1,kp1⟩
  case round=>
   obtain⟨k,els,hk,rfl,hke,hown,hel,hrd,hkp⟩:=hrel
   have h0I:(0:Int)<=(k:Int):=afa _
   obtain⟨Ak,ck,rfl⟩:=hown.slice
   rw[hke]at hown
   have HO:=Lib.hid hown
   have HE:=Lib.hid hel
   have HRD:=Lib.hid hrd
   have HKP:=Lib.hid hkp
   have HKE:=Lib.hid hke
   have hsz:=hkp.size
   have e0:(Value.slice Ak els.length ck)=Value.slice Ak k ck:=by rw[hke]
   rw[e0]
   clear hown hel hrd hkp hke rd1 kp1 e0
   rcases afp k ls.length with hlt2|hge
   ·have hltI:(k:Int)<(ls.length:Int):=by omega
    obtain⟨a,hx⟩:∃a,ls[k]? =some a:=⟨_,aeK hlt2⟩
    have HX:=Lib.hid hx
    have HAt:=Lib.hid (HA2.out.flat hx)
    have HFk:=Lib.hid (HF.out a (aeY hx) wr _ HKP.out HRD.out HAt.out)
    clear hx
    go_wp2_with (first |((first |go_at_call 204|go_at_call 170|go_at_call 113|go_at_call 115|go_at_call 57);refine HFk.out.mono ?_;rintro e w2 ⟨v2,rfl,rd2,kp2,cs,rfl,hl2,ho2,hel2⟩)|(refine Kw rfl _ _ _ rfl _ hu hro (by decide) (by decide) cs rfl hl2 ?_)|(at_builtin;refine Jy rfl _ _ _ rfl W.heap.size _ _ hu hro (by decide) _ els.length els.flatten rfl ((HO.out.kp hlt kp2).own) cs rfl hl2 ho2 (by have:=HKE.out;omega) (by have:=kp2.size;omega) ?_;intro v3 w3 hown3 hg3;have hob:∀q,(Value.slice Ak k ck).ownBlock=some q->W.heap.size<=q:=(λq hq=>(HO.out.own.lt q hq).1);have rd3:=(rd2.alloc _).grown hg3 (λq hq=>by have:=hob q hq;omega) h0;obtain⟨y0,y1,y2⟩:=rd3.cells))
    have HO3:=Lib.hid hown3
    have HST3:=Lib.hid ((kp2.others (aeM _) _).trans ((((Lib.OthersKept.refl _ (some r) w2).alloc (.cells cs.toArray _ (0,0)))).trans (BX (v:=Value.slice Ak k ck) (HO.out.kp hlt kp2).own hg3)))
    have HST2:=Lib.hid ((((Lib.OthersKept.refl _ (some r) w2).alloc (.cells cs.toArray _ (0,0)))).trans (BX (v:=Value.slice Ak k ck) (HO.out.kp hlt kp2).own hg3))
    have HKP3:=Lib.hid (((HKP.out.trans (kp2.mono hsz)).alloc (by have:=kp2.size;omega) (.cells cs.toArray _ (0,0))).grown hg3 (by have:=kp2.size;simp;omega) hob)
    have HRD3:=Lib.hid rd3
    clear hob hown3 hg3 rd3 y0 y1 y2
    go_roundg (ls.length-(k+1))
    case measure=>omega
    case rel=>
     refine⟨k+1,els++[cs],by omega,rfl,by simp[HKE.out],⟨?_,?_⟩,?_,?_,HKP3.out⟩
     ·simpa using HO3.out
     ·intro x hx'
      rcases afl.1 hx' with h|h
      ·exact HO.out.len x h
      ·rw[aeR.1 h];exact hl2
     ·rw[take_snoc HX.out]
      exact a0i (HE.out.imp λa cs h=>HST.out a _ _ _ h HST3.out) (HST.out a _ _ _ hel2 HST2.out)
     ·have:=HRD3.out
      rw[take_snoc HX.out,ah2,aeL,<-afZ]
      simpa using this
   ·obtain rfl:k=ls.length:=by omega
    rw[afq]at HE HRD
    go_wp2_with fail
    go_ret
    exact⟨_,rfl,HRD.out,HKP.out,els,HO.out,HE.out⟩)
