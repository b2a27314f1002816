/- The walk of number.Get. -/
import Derived.Test.YtnhnelgkcldkbaaGreatDoorPgRange
set_option linter.all false
set_option maxHeartbeats 400000
open Nat renaming eq_or_lt_of_le → aia
namespace Go.Proofs.YtnhnelgkcldkbaaGreatDoor
open Go.RowKit
theorem vX (c:Int)(h0:0<=c)(h1:c<256):bits .andNot .u8 c 127=if c<128 then 0 else 128:=by
 rw[u8_andNot c 127 h0 h1 (by omega) (by omega)]
 have h:∀m:Fin 256,((m.val &&& (255-127):Nat):Int)=if (m.val:Int)<128 then 0 else 128:=by decide +kernel
 have:=h ⟨c.toNat,by omega⟩
 simp only at this
 have e:((c.toNat:Nat):Int)=c:=by omega
 rw[e]at this
 exact this
theorem a7k (c:Int)(h0:0<=c)(h1:c<256):bits .xor .u8 c 0=c:=by
 rw[u8_xor c 0 h0 h1 (by omega) (by omega)]
 simp
 omega
theorem Yr (c:Int)(h0:128<=c)(h1:c<256):bits .xor .u8 c 128=c%128:=by
 rw[u8_xor c 128 (by omega) h1 (by omega) (by omega)]
 have h:∀m:Fin 256,128<=m.val->((m.val ^^^ 128:Nat):Int)=(m.val:Int)%128:=by decide +kernel
 have:=h ⟨c.toNat,by omega⟩ (by simp only;omega)
 simp only at this
 have e:((c.toNat:Nat):Int)=c:=by omega
 rw[e]at this
 exact this
def join (i:Nat)(x:Int)(r:Int×Int×Int):Int×Int×Int:=if r.2.2=0 then(x+r.1*128^i,i+r.2.1,0)else(0,0,r.2.2)
theorem SH (x c:Int)(i:Nat)(hi:i<=9)(hx0:0<=x)(hx:x<128^i)(hc0:0<=c)(hc:c<128)(h9:i=9->c<=1):
  bits .or .u64 x (IntKind.u64.wrap (c*2^(7*i)))=x+c*128^i/\0<=x+c*128^i/\x+c*128^i<128^(i+1)/\x+c*128^i<=18446744073709551615:=by
 have hp:(2:Int)^(7*i)=128^i:=by
  rw[Int.pow_mul]
  rfl
 have hpos:(0:Int)<128^i:=agY (by omega)
 have hb:x+c*128^i<=18446744073709551615:=by
  by_cases h:i=9
  ·subst h
   have hp9:(128:Int)^9=9223372036854775808:=by decide
   rw[hp9]at hx |-
   have:=h9 rfl
   omega
  ·have hp9:(128:Int)^i*128<=9223372036854775808:=by
    have e:(9223372036854775808:Int)=128^(i+1)*128^(8-i):=by
     rw[<-Int.pow_add]
     have:i+1+(8-i)=9:=by omega
     rw[this]
     decide
    rw[e,agr]
    have:(1:Int)<=128^(8-i):=(agY (by omega):(0:Int)<128^(8-i))
    have h2:(128^i*128)*(1:Int)<=128^i*128*128^(8-i):=ahg this (by omega)
    omega
   have:c*128^i<=127*128^i:=aga (by omega) (by omega)
   omega
 have hm0:0<=c*128^i:=Int.mul_nonneg hc0 (by omega)
 have hlt:x+c*128^i<128^(i+1):=by
  rw[agr]
  have:c*128^i<=127*128^i:=aga (by omega) (by omega)
  omega
 refine⟨?_,by omega,hlt,hb⟩
 rw[hp,IntWalk.u64_in _ (by omega),u64_or _ _ hx0 (by omega) hm0 (by omega)]
 have e:∃X C:Nat,x=X/\c=C:=⟨x.toNat,c.toNat,by omega,by omega⟩
 obtain⟨X,C,rfl,rfl⟩:=e
 have hq:((C:Int)*128^i)=((C*128^i:Nat):Int):=by simp
 rw[hq]
 simp only[afO]
 have hX:X<2^(7*i):=by
  have:(X:Int)<((128^i:Nat):Int):=by simpa using hx
  have h2:(2:Nat)^(7*i)=128^i:=by rw[Nat.pow_mul]
  rw[h2]
  omega
 have hj:=nat_join (7*i) (C*128^i) X (by
  have h2:(2:Nat)^(7*i)=128^i:=by rw[Nat.pow_mul]
  rw[h2]
  exact Nat.mul_mod_left _ _) hX
 rw[Nat.or_comm,hj]
 omega
theorem a02 (r:Int×Int×Int)(h:r.2.2≠0->r.1=0/\r.2.1=0):join 0 0 r=r:=by
 unfold join
 split
 ·obtain⟨a,b,c⟩:=r
  simp at *
  omega
 ·rename_i hc
  obtain⟨a,b,c⟩:=r
  have:=h hc
  simp at *
  omega
structure wK (xs:List Int)(q i:Nat)(x c:Int):Prop where
 head:xs.drop (q+i)=c::xs.drop (q+(i+1))
 joined:Num.gB 0 (xs.drop q)=join i x (Num.gB i (xs.drop (q+i)))
theorem wK.form {xs:List Int}{q i:Nat}{x c:Int}(h:wK xs q i x c)(h1:(i=9/\1<c)\/(c=0/\0<i)):Num.get xs (q:Int)=(0,0,12):=by
 rw[Num.get,afc (by omega),afO,h.joined,h.head,Num.Yt i c _ h1]
 rfl
theorem wK.last {xs:List Int}{q i:Nat}{x c:Int}(h:wK xs q i x c)(h1:¬((i=9/\1<c)\/(c=0/\0<i)))(h2:c<128):Num.get xs (q:Int)=(x+c*128^i,(q:Int)+i+1,0):=by
 rw[Num.get,afc (by omega),afO,h.joined,h.head,Num.Z9 i c _ h1 h2]
 simp[join]
 omega
theorem wK.more {xs:List Int}{q i:Nat}{x c:Int}(h:wK xs q i x c)(h1:¬((i=9/\1<c)\/(c=0/\0<i)))(h2:128<=c):
  Num.gB 0 (xs.drop q)=join (i+1) (x+c%128*128^i) (Num.gB (i+1) (xs.drop (q+(i+1)))):=by
 rw[h.joined,h.head,Num.YZ i c _ h1 h2]
 by_cases h3:(Num.gB (i+1) (xs.drop (q+(i+1)))).2.2=0
 ·rw[afm h3]
  simp only[join,afm h3]
  simp only[Int.add_mul,agr,agL,agf,agJ]
  refine⟨?_,by omega⟩
  have:128*(Num.gB (i+1) (xs.drop (q+(i+1)))).1*128^i=(Num.gB (i+1) (xs.drop (q+(i+1)))).1*(128^i*128):=by
   rw[ahf 128,Int.mul_assoc,ahf 128]
  omega
 ·rw[afc h3]
  simp only[join,afc h3]
theorem get_any (A:Option Addr)(cap B:Nat)(xs:List Int)(p:Int)(w:World)(hr:Row w B .u8 A xs)(hx:∀c∈xs,0<=c/\c<256)(hcap:xs.length<=cap)(hmax:xs.length<=4611686018427387904)
  (hp0:-9223372036854775808<=p) (hp1:p<=9223372036854775807):
  Calls Tryz.prog 39 #[.slice A xs.length cap,.int .i64 p] w λe w'=>
   e=.returned (.tuple #[.int .u64 (Num.get xs p).1,.int .i64 (Num.get xs p).2.1,.int .i64 (Num.get xs p).2.2])/\w=w':=by
 rcases agW p 0 with hneg|hpos
 ·have HG:=Lib.hid (show Num.get xs p=(0,0,2)by rw[Num.get,afm hneg])
  go_enter Tryz.func39,Tryz.ntmps39
  go_wp2
  go_ret3
  exact⟨by rw[HG.out];rfl,rfl⟩
 rcases agW (xs.length:Int) p with hbig|hle
 ·have HG:=Lib.hid (show Num.get xs p=(0,0,24)by
   rw[Num.get,afc (by omega),agS (by omega)]
   rfl)
  rcases aia hcap with rfl|hcc
  all_goals
   go_enter Tryz.func39,Tryz.ntmps39
   go_wp2
   refine wp_loop_rounds 1 ?_
   rw[rounds_succ]
   go_wp2
   go_ret3
   exact⟨by rw[HG.out];rfl,rfl⟩
 rcases Int.lt_or_eq_of_le hle with hlt|heq
 ·obtain⟨q,rfl⟩:=ah8 hpos
  have hq:q<xs.length:=by omega
  obtain⟨b,off,rfl,hbB,hcells⟩:=hr (by omega)
  have HC:=Lib.hid hcells
  clear hcells hr
  have HX:=Lib.hid hx
  clear hx
  have hcq:q<cap:=by omega
  have h11:decide ((q:Int)<0)=false:=by simp
  have h15:decide (xs.length<q)=false:=by simp;omega
  go_enter Tryz.func39,Tryz.ntmps39
  go_wp2
  go_loop [4,22] (λs4 s22=>∃(i:Nat) (x:Int),s22=.int .i64 i/\s4=.int .u64 x/\q+i<=xs.length/\i<=9/\0<=x/\x<128^i/\
    Num.gB 0 (xs.drop q)=join i x (Num.gB i (xs.drop (q+i)))) (λ_ s22=>xs.length-(intOf s22).toNat)
  case atStart=>exact⟨0,0,rfl,rfl,by omega,by omega,by omega,by simp,(a02 _ (Num.a0M _ _)).symm⟩
  case round=>
   obtain⟨i,x,rfl,rfl,hi,hi9,hx0,hx1,hJ⟩:=hrel
   have HJ:=Lib.hid hJ
   have HX1:=Lib.hid hx1
   clear hJ hx1
   by_cases hlt:q+i<xs.length
   ·have hcell:w.cell? ⟨b,off+q+i,none⟩=some (.int .u8 (xs.getD (q+i) 0)):=by rw[afZ];exact HC.out _ hlt
    have hmem:xs.getD (q+i) 0∈xs:=by
     have:xs.getD (q+i) 0=xs[q+i]:=by simp[List.getD,aeK hlt]
     rw[this];exact agl hlt
    have hc:=HX.out _ hmem
    have HD:=Lib.hid (show xs.drop (q+i)=xs.getD (q+i) 0::xs.drop (q+(i+1))by
     rw[List.drop_eq_getElem_cons hlt]
     congr 1
     simp[List.getD,aeK hlt])
    obtain⟨hc0,hc1⟩:=hc
    generalize xs.getD (q+i) 0=c at *
    have hin:(i:Int)<((xs.length-q:Nat):Int):=by omega
    have hst:wK xs q i x c:=⟨HD.out,HJ.out⟩
    clear HC HX HD HJ
    by_cases h1:(i=9/\1<c)\/(c=0/\0<i)
    ·have HG:=Lib.hid (hst.form h1)
     rcases agW 1 c with hc2|hc2
     ·have hi9':((i:Int)==9)=true:=by simp;omega
      go_wp2
      go_ret3
      exact⟨by rw[HG.out];rfl,rfl⟩
     ·have hi0:0<i:=by omega
      have hc00:c=0:=by omega
      subst hc00
      have hb:bits .andNot .u8 0 127=0:=by rw[vX 0 (by omega) (by omega)];rfl
      rcases ah6 ((i:Int)==9)with hi9'|hi9'
      ·go_wp2
       go_ret3
       exact⟨by rw[HG.out];rfl,rfl⟩
      ·go_wp2
       go_ret3
       exact⟨by rw[HG.out];rfl,rfl⟩
    ·rcases agW c 128 with hc2|hc2
     ·have hbit:=SH x c i hi9 hx0 HX1.out hc0 hc2 (by omega)
      obtain⟨hb1,hb2,hb3,hb4⟩:=hbit
      have HG:=Lib.hid (hst.last h1 hc2)
      have HB3:=Lib.hid hb3
      clear hb3
      have hb:bits .andNot .u8 c 127=0:=by rw[vX c (by omega) (by omega),afm hc2]
      have hxor:bits .xor .u8 c 0=c:=a7k c hc0 hc1
      have hz:c=0->(i:Int)<=0:=by omega
      have h9:(i:Int)=9->c<=1:=by omega
      have HZ:=Lib.hid hz
      have H9:=Lib.hid h9
      clear hz h9 h1
      rcases ah6 ((i:Int)==9)with hi9'|hi9'<;>rcases ah6 (c==0)with hcz|hcz
      ·have:c=0:=by simpa using hcz
       have:=HZ.out this
       have:(i:Int)=9:=by simpa using hi9'
       omega
      ·have hc1':=H9.out (by simpa using hi9')
       go_wp2
       go_ret3
       exact⟨by rw[HG.out];rfl,rfl⟩
      ·have hi0:=HZ.out (by simpa using hcz)
       go_wp2
       go_ret3
       exact⟨by rw[HG.out];rfl,rfl⟩
      ·go_wp2
       go_ret3
       exact⟨by rw[HG.out];rfl,rfl⟩
     ·have hi8:i<=8:=by omega
      have hbit:=SH x (c%128) i hi9 hx0 HX1.out (by omega) (by omega) (by omega)
      obtain⟨hb1,hb2,hb3,hb4⟩:=hbit
      have HM:=Lib.hid (hst.more h1 hc2)
      have HB3:=Lib.hid hb3
      clear hb3 h1
      have hb:bits .andNot .u8 c 127=128:=by rw[vX c (by omega) (by omega),afc (by omega)]
      have hxor:bits .xor .u8 c 128=c%128:=Yr c hc2 hc1
      have hi9':((i:Int)==9)=false:=by simp;omega
      go_wp2
      go_round
      case rel=>exact⟨i+1,x+c%128*128^i,by go_num,rfl,by omega,by omega,hb2,HB3.out,HM.out⟩
      case measure=>simp[intOf];omega
   ·have e:xs.drop (q+i)=[]:=agS (by omega)
    have HG:=Lib.hid (show Num.get xs (q:Int)=(0,0,24)by
     rw[Num.get,afc (by omega),afO,HJ.out,e]
     rfl)
    have hin:¬(i:Int)<((xs.length-q:Nat):Int):=by omega
    clear e
    go_wp2
    go_ret3
    exact⟨by rw[HG.out];rfl,rfl⟩
 ·have HG:=Lib.hid (show Num.get xs p=(0,0,24)by
   rw[Num.get,afc (by omega),agS (by omega)]
   rfl)
  subst heq
  rcases aia hcap with rfl|hcc
  all_goals
   go_enter Tryz.func39,Tryz.ntmps39
   go_wp2
   refine wp_loop_rounds 1 ?_
   rw[rounds_succ]
   go_wp2
   go_ret3
   exact⟨by rw[HG.out];rfl,rfl⟩
theorem Rk:∀(f:Nat) (n:Nat),n<128^(f+1)->n<18446744073709551616->(Num.nD f n).length=max 1 ((Lib.bitLen n+6)/7)
 |0,n,h,h64=>by
  have h7:n<128:=by simpa using h
  have:∀m:Fin 128,max 1 ((Lib.bitLen m.val+6)/7)=1:=by decide +kernel
  simpa[Num.nD]using(this ⟨n,h7⟩).symm
 |f+1,n,h,h64=>by
  rcases afp n 128 with hn|hn
  ·have:∀m:Fin 128,max 1 ((Lib.bitLen m.val+6)/7)=1:=by decide +kernel
   rw[Num.mP _ _ (by omega)]
   simpa using(this ⟨n,hn⟩).symm
  ·rw[Num.Gy _ _ (by omega)]
   have hd:n/128<128^(f+1):=by rw[Nat.pow_succ]at h;omega
   have ih:=Rk f (n/128) hd (by omega)
   have hs:=Lib.bitLen_shift 7 n (by omega) h64
   have e:((n:Int)/128)=((n/128:Nat):Int):=by omega
   rw[e,afi,ih,hs]
   have h1:1<=Lib.bitLen (n/2^7):=by
    rw[Lib.bitLen_half _ (by omega) (by omega)];omega
   have e2:n/2^7=n/128:=rfl
   rw[e2]at h1 |-
   omega
theorem a5l (n:Int)(h0:0<=n)(h1:n<=18446744073709551615):((Num.put n).length:Int)=max 1 (((Lib.bitLen n.toNat:Int)+6)/7):=by
 obtain⟨k,rfl⟩:=ah8 h0
 have:=Rk 10 k (by
   have:(128:Nat)^11=151115727451828646838272:=by decide
   omega) (by omega)
 unfold Num.put
 rw[this,afO]
 omega
theorem bitLen_le (n:Int):Lib.bitLen n.toNat<=64:=by
 have aux:∀f x,Lib.bitLenAux f x<=f:=by
  intro f
  induction f with
  |zero=>intro x;simp[Lib.bitLenAux]
  |succ f ih=>
   intro x
   unfold Lib.bitLenAux
   split
   ·omega
   ·have:=ih (x/2);omega
 exact aux 64 _
theorem TW (n:Int)(w:World)(h0:0<=n)(h1:n<=18446744073709551615):
  Calls Tryz.prog 87 #[.int .u64 n] w λe w'=>e=.returned (.int .i64 (Num.put n).length)/\w=w':=by
 have HP:=Lib.hid (a5l n h0 h1)
 have hl:=bitLen_le n
 go_enter Tryz.func87,Tryz.ntmps87
 go_wp2_with (go_at_call 141;refine(Tryz.bits_Len64 _ _ h0 h1).mono ?_;rintro e w' ⟨rfl,rfl⟩)
 go_ret
 exact⟨a6C HP.out.symm,rfl⟩
theorem GI:(Tryz.prog.info? 5).map (λi=>(i.zero,i.size,i.bytes))=some (some (.int .u8 0),1,1):=by kernel_rfl
theorem u8_or128 (q:Int)(h0:0<=q)(h1:q<256):bits .or .u8 q 128=q%128+128:=by
 rw[u8_or q 128 h0 h1 (by omega) (by omega)]
 have h:∀m:Fin 256,((m.val ||| 128:Nat):Int)=(m.val:Int)%128+128:=by decide +kernel
 have:=h ⟨q.toNat,by omega⟩
 simp only at this
 have e:((q.toNat:Nat):Int)=q:=by omega
 rw[e]at this
 exact this
theorem put_any (n:Int)(w:World)(h0:0<=n)(h1:n<=18446744073709551615):
  Calls Tryz.prog 38 #[.int .u64 n] w λe w'=>
   ∃v,e=.returned v/\w'.ownsRow w.heap.size 5 1 v (Num.put n).length ((Num.put n).map (Value.int .u8))/\Below w.heap.size w w':=by
 have hle:=Num.UZ n (by omega)
 obtain⟨C,hC,_,hmk⟩:=Tt 50 5 (.int .u8 0) 1 Tryz.underlying50 GI rfl 0 (Num.put n).length (afb _) (by omega) (by omega)
 have hmk:=hmk .i64 .i64
 simp only[Int.natCast_zero]at hmk
 have hown0:=World.ownsRow_made (base:=w.heap.size) (e:=5) (size:=1) w C (Num.put n).length (aeM _) (by simp only[maxLen];omega) (by omega)
 have hC:=Lib.hid hC
 go_enter Tryz.func38,Tryz.ntmps38
 go_wp2_with (go_at_call 87;refine(TW _ _ h0 h1).mono ?_;rintro e w' ⟨rfl,rfl⟩)
 go_loopw [0,3] (λm v wr=>∃(q:Int) (out:List Int),m=.int .u64 q/\0<=q/\q<=18446744073709551615/\Num.put n=out++Num.put q/\
   wr.ownsRow w.heap.size 5 1 v out.length (out.map (Value.int .u8))/\Below w.heap.size w wr) (λm _ _=>(intOf m).toNat)
 case atStart=>exact⟨n,[],rfl,h0,h1,rfl,by simpa using hown0,(ahE _ _).alloc (aeM _) _⟩
 case round=>
  clear hmk hown0
  obtain⟨q,out,rfl,hq0,hq1,hput,hown,hbel⟩:=hrel
  have HP:=Lib.hid hput
  clear hput
  have hlen:out.length+1<=11:=by have:=congrArg List.length HP.out;simp at this;have:=Num.put_pos q;omega
  rcases agW q 128 with hq|hq
  ·have hw8:IntKind.u8.wrap q=q:=IntWalk.u8_in q (by omega)
   go_wp2_with (at_builtin;refine rZ rfl _ _ 50 rfl w.heap.size 5 (.int .u8 0) 1 Tryz.underlying50 GI rfl _ _ _ rfl hown (.int .u8 q) rfl rfl (by omega) (by omega) hbel hbel.size ?_;intro v1 w1 hown1 hbel1)
   go_ret
   refine⟨v1,rfl,?_,hbel1⟩
   rw[HP.out,Num.KE q hq]
   simpa using hown1
  ·have HQ:=Lib.hid (Num.a4l q (by omega) hq)
   go_wp2_with (at_builtin;refine rZ rfl _ _ 50 rfl w.heap.size 5 (.int .u8 0) 1 Tryz.underlying50 GI rfl _ _ _ rfl hown (.int .u8 (bits .or .u8 (q%256) 128)) rfl rfl (by omega) (by omega) hbel hbel.size ?_;intro v1 w1 hown1 hbel1)
   have hb:bits .or .u8 (q%256) 128=q%128+128:=by rw[u8_or128 _ (by omega) (by omega)];omega
   rw[hb]at hown1
   have HB:=Lib.hid hb
   clear hb
   go_roundw
   case rel=>exact⟨q/128,out++[q%128+128],rfl,by omega,by omega,by rw[HP.out,HQ.out];simp,by simpa using hown1,hbel1⟩
   case measure=>simp[intOf];omega
theorem YQ (xs:List Int)(p:Int)(hx:∀c∈xs,0<=c/\c<256):0<=(Num.get xs p).1/\(Num.get xs p).1<=18446744073709551615/\0<=(Num.get xs p).2.1/\
  ((Num.get xs p).2.2=0/\0<=p/\(Num.get xs p).2.1<=xs.length\/(Num.get xs p).1=0/\(Num.get xs p).2.1=0/\((Num.get xs p).2.2=2\/(Num.get xs p).2.2=12\/(Num.get xs p).2.2=24)):=by
 unfold Num.get
 split
 ·simp
 ·rename_i hp
  split
  ·rename_i h0
   obtain⟨a1,a2,a3,a4,_,_⟩:=Num.WO (xs.drop p.toNat) 0 (by omega) (λc hc=>hx c (agB hc)) h0
   have hl:(xs.drop p.toNat).length=xs.length-p.toNat:=agE
   simp only[Int.pow_zero,Int.mul_one]at a4
   refine⟨a3,by omega,by simp only;omega,Or.inl ⟨rfl,by omega,by simp only;omega⟩⟩
  ·rename_i h0
   have:=Num.JH (xs.drop p.toNat) 0
   exact⟨by simp,by simp,by simp,Or.inr ⟨rfl,rfl,by simp only;omega⟩⟩
theorem a04 (x:Int)(h0:-9223372036854775808<=x)(h1:x<=9223372036854775807):
  bits .xor .u64 (IntKind.u64.wrap (IntKind.u64.wrap x*2)) (IntKind.u64.wrap (x/9223372036854775808))=Num.fold x:=by
 have hf:=Num.wQ x h0 h1
 rcases agW x 0 with h|h
 ·have e1:x/9223372036854775808=-1:=by omega
  have e2:IntKind.u64.wrap (-1)=18446744073709551615:=by rw[ahR];rfl
  have e3:IntKind.u64.wrap (IntKind.u64.wrap x*2)=2*x+18446744073709551616:=by rw[ahR,ahR];omega
  rw[e1,e2,e3,u64_xor _ _ (by omega) (by omega) (by omega) (by omega)]
  have hn:Num.fold x=-2*x-1:=by unfold Num.fold;rw[afc (by omega)]
  rw[hn]
  have e4:∀a:Nat,a<18446744073709551616->a ^^^ 18446744073709551615=18446744073709551615-a:=by
   intro a ha
   have h:=BitVec.toNat_not (x:=BitVec.ofNat 64 a)
   have hx:(~~~ BitVec.ofNat 64 a)=BitVec.ofNat 64 a ^^^ BitVec.allOnes 64:=BitVec.xor_allOnes.symm
   rw[hx,BitVec.toNat_xor,BitVec.toNat_ofNat,ahr (by omega)]at h
   simpa using h
  have e5:=e4 (2*x+18446744073709551616).toNat (by omega)
  have e6:((18446744073709551615:Int)).toNat=18446744073709551615:=rfl
  rw[e6,e5]
  omega
 ·have e1:x/9223372036854775808=0:=by omega
  have e2:IntKind.u64.wrap 0=0:=rfl
  have e3:IntKind.u64.wrap (IntKind.u64.wrap x*2)=2*x:=by rw[ahR,ahR];omega
  rw[e1,e2,e3,u64_xor _ _ (by omega) (by omega) (by omega) (by omega)]
  have hn:Num.fold x=2*x:=by unfold Num.fold;rw[afm h]
  rw[hn]
  simp
  omega
theorem JR (x:Int)(w:World)(h0:-9223372036854775808<=x)(h1:x<=9223372036854775807):
  Calls Tryz.prog 200 #[.int .i64 x] w λe w'=>
   ∃v,e=.returned v/\w'.ownsRow w.heap.size 5 1 v (Num.put (Num.fold x)).length ((Num.put (Num.fold x)).map (Value.int .u8))/\Below w.heap.size w w':=by
 obtain⟨hf0,hf1⟩:=Num.wQ x h0 h1
 have hfb:=a04 x h0 h1
 go_enter Tryz.func200,Tryz.ntmps200
 go_wp2_with (go_at_call 38;refine(put_any _ _ hf0 (by omega)).mono ?_;rintro e w' ⟨v,rfl,hown,hbel⟩)
 go_ret
 exact⟨v,rfl,hown,hbel⟩
theorem LU (a:Int)(h0:0<=a)(h1:a<=9223372036854775807):(BitVec.ofInt 64 a).toNat=a.toNat:=by
 obtain⟨k,rfl⟩:=ah8 h0
 rw[BitVec.ofInt_natCast,BitVec.toNat_ofNat]
 have:k%2^64=k:=ahr (by omega)
 rw[this,afO]
theorem OD (a:Int)(h0:0<=a)(h1:a<=9223372036854775807):bits .xor .i64 a 0=a:=by
 show IntKind.i64.wrap ((BitVec.ofInt 64 a ^^^ BitVec.ofInt 64 0).toNat:Int)=_
 have e:BitVec.ofInt 64 a ^^^ BitVec.ofInt 64 0=BitVec.ofInt 64 a:=by simp
 rw[e,LU a h0 h1,IntWalk.i64_in _ (by omega)]
 omega
theorem OC (a:Int)(h0:0<=a)(h1:a<=9223372036854775807):bits .xor .i64 a (-1)=-a-1:=by
 show IntKind.i64.wrap ((BitVec.ofInt 64 a ^^^ BitVec.ofInt 64 (-1)).toNat:Int)=_
 have e1:BitVec.ofInt 64 (-1)=BitVec.allOnes 64:=by decide
 rw[e1,BitVec.xor_allOnes,BitVec.toNat_not,LU a h0 h1,ai0]
 omega
theorem a0c (n:Int)(h0:0<=n)(h1:n<=18446744073709551615):bits .xor .i64 (n/2) (wrap64 (-wrap64 (bits .and .u64 n 1)))=Num.back n:=by
 have e:bits .and .u64 n 1=n%2:=by
  rw[u64_and n 1 h0 (by omega) (by omega) (by omega)]
  have:n.toNat &&& (1:Int).toNat=n.toNat%2:=nat_mask1 _
  rw[this]
  omega
 rw[e]
 rcases Int.emod_two_eq n with h|h
 ·have e2:wrap64 (-wrap64 (n%2))=0:=by rw[h];simp only[wrap64];omega
  rw[e2,OD _ (by omega) (by omega),Num.back,afm h]
 ·have e2:wrap64 (-wrap64 (n%2))=-1:=by rw[h];simp only[wrap64];omega
  rw[e2,OC _ (by omega) (by omega),Num.back,afc (by omega)]
theorem Ko (A:Option Addr)(cap B:Nat)(xs:List Int)(p:Int)(w:World)(hr:Row w B .u8 A xs)(hx:∀c∈xs,0<=c/\c<256)(hcap:xs.length<=cap)(hmax:xs.length<=4611686018427387904)
  (hp0:-9223372036854775808<=p) (hp1:p<=9223372036854775807):
  Calls Tryz.prog 229 #[.slice A xs.length cap,.int .i64 p] w λe w'=>
   e=.returned (.tuple #[.int .i64 (Num.back (Num.get xs p).1),.int .i64 (Num.get xs p).2.1,.int .i64 (Num.get xs p).2.2])/\w=w':=by
 have HC:=Lib.hid (get_any A cap B xs p w hr hx hcap hmax hp0 hp1)
 obtain⟨g0,g1,g2,g3⟩:=YQ xs p hx
 clear hx hr
 generalize Num.get xs p=r at *
 obtain⟨n,next,err⟩:=r
 simp only at g0 g1 g2 g3
 have HB:=Lib.hid (a0c n g0 g1)
 go_enter Tryz.func229,Tryz.ntmps229
 go_wp2_with (go_at_call 39;refine HC.out.mono ?_;rintro e w' ⟨rfl,rfl⟩)
 go_ret3
 exact⟨by rw[HB.out];rfl,rfl⟩
