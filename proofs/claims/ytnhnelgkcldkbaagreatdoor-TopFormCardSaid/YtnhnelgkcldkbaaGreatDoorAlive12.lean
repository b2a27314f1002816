/- encode.Bytes: the bytes of a sound program, or that they are too many. decode.Program, of the bytes of a sound program. The bytes and the text of a program: alive12. -/
import Derived.Test.YtnhnelgkcldkbaaGreatDoorEncS
import Derived.Test.YtnhnelgkcldkbaaGreatDoorPtCheck
import Derived.Test.YtnhnelgkcldkbaaGreatDoorDecX
set_option linter.all false
set_option maxHeartbeats 8000000
set_option maxRecDepth 100000
namespace Go.Proofs.YtnhnelgkcldkbaaGreatDoor
namespace enc
open Go.RowKit Am loan bld
open txt (kQ jT tFn tBk)
open prg (Fz lK iZ tPr fnR)
theorem a6m {W:World}{b:Nat}{acc:List Int}(h:Wr b acc W)(hn:acc.length<=4000):Calls Tryz.prog 55 #[.pointer (some ⟨b,0,none⟩)] W λe W'=>∃s,e=.returned (.tuple #[s,.int .i64 0])/\W'.ownsRow (b+1) tU 1 s acc.length (acc.map (Value.int .u8))/\W'=W:=by
 obtain⟨v,hb,ho⟩:=h.x
 obtain⟨A,c,rfl,_⟩:=bT.rows (oD ho) (by decide)
 rw[af4]at *
 have c0:W.cell? ⟨b,0,none⟩=some (.slice A acc.length c):=by rw[Lib.cell_of_heap hb];rfl
 have HO:=Lib.hid ho
 have hnI:¬(4000:Int)<(acc.length:Int):=by omega
 have hd:decide ((acc.length:Int)>4000)=false:=af2 hnI
 have hd2:¬4000<acc.length:=by omega
 clear hb ho h
 go_enter Tryz.func55,Tryz.ntmps55
 go_wp2_with fail
 go_ret2
 exact⟨_,rfl,HO.out,rfl⟩
theorem a5V {W:World}{b:Nat}{acc:List Int}(h:Wr b acc W)(hn:4000<acc.length):Calls Tryz.prog 55 #[.pointer (some ⟨b,0,none⟩)] W λe W'=>e=.returned (.tuple #[.slice none 0 0,.int .i64 18])/\W'=W:=by
 obtain⟨v,hb,ho⟩:=h.x
 obtain⟨A,c,rfl,_⟩:=bT.rows (oD ho) (by decide)
 rw[af4]at *
 have c0:W.cell? ⟨b,0,none⟩=some (.slice A acc.length c):=by rw[Lib.cell_of_heap hb];rfl
 have hnI:(4000:Int)<(acc.length:Int):=by omega
 have hd:decide ((acc.length:Int)>4000)=true:=afn hnI
 clear hb ho h
 go_enter Tryz.func55,Tryz.ntmps55
 go_wp2_with fail
 go_ret2
 exact⟨rfl,rfl⟩
def adO (zs:List Int)(W:World)(e:Ending)(W':World):Prop:=Below W.heap.size W W'/\((4000<zs.length/\e=.returned (.tuple #[.slice none 0 0,.int .i64 18]))\/(zs.length<=4000/\∃s,e=.returned (.tuple #[s,.int .i64 0])/\W'.ownsRow W.heap.size tU 1 s zs.length (zs.map (Value.int .u8))))
theorem a9N {l:List FnV}(h:∀v∈l,v.ok):(J3 l).length<=22000*l.length:=oP FnV.b 22000 l λx hx=>FnV.acD (h x hx)
theorem Vw {w:World}{v fv:Value}{Ds:List FnD}{Vs:List FnV}(h:dS w v fv Ds)(hV:∀V∈Vs,V.ok)(hc:Ds.map FnD.core=Vs.map FnV.core)(h8:Ds.length<=8)(hC:Fz 43 w v 0):Calls Tryz.prog 16 #[v] w (adO (pgB Vs) w):=by
 obtain⟨A,c,e,_,hm,hr⟩:=h.rows
 unfold Fz at hC
 have HF:=Lib.hid (λ(D:FnD) (hD:D∈Ds)=>h.fn D hD)
 have HSL:=Lib.hid (λ(D:FnD) (hD:D∈Ds)=>lK (h.fn D hD))
 rw[e]at hC |-
 have b0:Below w.heap.size w (w.alloc (.cells #[.slice A Ds.length c] tPr)):=(ahE _ _).alloc (aeM _) _
 have P0:(w.alloc (.cells #[.slice A Ds.length c] tPr)).heap[w.heap.size]? =some (.cells #[.slice A Ds.length c] tPr (0,0)):=ay rfl
 have HC:=Lib.hid hC
 have HR:=Lib.hid hr
 have HV:=Lib.hid hV
 have HCC:=Lib.hid hc
 have hlen:=C9 hc
 have HN:=Lib.hid hlen
 clear hC h hr e hV hc hlen hm
 go_enter Tryz.func16,Tryz.ntmps16
 go_upto_region 5 with(go_at_call 43;refine(HC.out _ b0).mono ?_;rintro e w1 ⟨rfl,b1⟩)
 have b01:=b0.trans (b1.mono b0.size)
 have P1:=(b1.block _ (aeN.1 P0).1).trans P0
 have hlt1:w.heap.size<w1.heap.size:=(aeN.1 P1).1
 have hbb:w.heap.size<=w1.heap.size:=afk hlt1
 have HB2:=Lib.hid (b01.alloc hbb (.cells #[.slice none 0 0] tW))
 have HW2:=Lib.hid (show Wr w1.heap.size [] (w1.alloc (.cells #[.slice none 0 0] tW))from⟨_,ay rfl,ahT _ _ _ _⟩)
 have P2:(w1.alloc (.cells #[.slice none 0 0] tW)).heap[w.heap.size]? =some (.cells #[.slice A Ds.length c] tPr (0,0)):=dA P1
 clear P0 P1 b0 b1 b01 HC
 generalize w1.heap.size=b at *
 generalize w1.alloc (.cells #[.slice none 0 0] tW)=w2 at *
 have p0:w2.cell? ⟨w.heap.size,0,none⟩=some (.slice A Ds.length c):=by rw[Lib.cell_of_heap P2];rfl
 have hlb:=HW2.out.lt
 have HP2:=Lib.hid P2
 clear P2
 go_upto_region 6 with(go_at_call 53;refine(zn (HW2.out.alloc _) (ay rfl) (by omega) (by omega) (by omega) (by simp)).mono ?_;rintro e w3 ⟨rfl,wr3,wt3⟩)
 have hwt:Wrote tU b w2 w3:=(dO (Wrote.refl _ _ _) (afk hlb) _).trans wt3
 have HB3:=Lib.hid (HB2.out.trans (hwt.bel.mono hbb))
 have p3:=hwt.block HP2.out (by omega) (by decide)
 clear p0
 have p0:w3.cell? ⟨w.heap.size,0,none⟩=some (.slice A Ds.length c):=by rw[Lib.cell_of_heap p3];rfl
 have HW3:=Lib.hid wr3
 have hp1:=dw (Ds.length:Nat)
 clear p3 wr3 wt3 hwt HP2
 rw[agx]at HW3
 go_wp2_with fail
 clear p0
 go_loopg [21] Ds.length (λg s21 w8=>∃i:Nat,s21=.int .i64 i/\i<=Ds.length/\g=Ds.length-i/\Wr b (Num.put (Ds.length:Nat)++J3 (Vs.take i)) w8/\Below w.heap.size w w8)
 case atStart=>exact⟨0,rfl,afb _,rfl,by simpa[J3]using HW3.out,HB3.out⟩
 case round=>
  obtain⟨i,rfl,hi,rfl,hwr,hbel⟩:=hrel
  have h0I:(0:Int)<=(i:Int):=afa _
  have HWR:=Lib.hid hwr
  have HO:=Lib.hid hbel
  have hfl:(Num.put (Ds.length:Nat)++J3 (Vs.take i)).length<=177000:=by
   have:=a9N (l:=Vs.take i) (λx hx=>HV.out x (afW hx))
   rw[afu]at this
   have:=HN.out
   rw[aeL];omega
  clear hwr hbel
  rcases afp i Ds.length with hlt|hge
  ·have hltI:(i:Int)<(Ds.length:Int):=by omega
   obtain⟨D,hD⟩:∃D,Ds[i]? =some D:=⟨_,aeK hlt⟩
   obtain⟨V,hVi,hDV⟩:=Xq HCC.out hD
   have hVo:=HV.out V (aeY hVi)
   obtain⟨g,o,eA,hg,hcell⟩:=iZ (HR.out.below HO.out) hD
   subst eA
   obtain⟨A1,c1,q1,A2,c2,q2⟩:=HSL.out D (aeY hD)
   have HNX:=Lib.hid (show J3 (Vs.take (i+1))=J3 (Vs.take i)++V.b from by unfold J3;exact vg _ hVi)
   have hFD:=ac2 (HF.out D (aeY hD)) hVo hDV hbb (HO.out.alloc HO.out.size (.cells #[.int .i64 D.p,.bool D.u,D.lv,D.bv] tFn)) (HWR.out.alloc (.cells #[.int .i64 D.p,.bool D.u,D.lv,D.bv] tFn)) (by omega)
   have hwm:=dO (Wrote.refl tU b wr) (afk HWR.out.lt) (.cells #[.int .i64 D.p,.bool D.u,D.lv,D.bv] tFn)
   rw[q1,q2]at hcell hFD hwm
   have HCL:=Lib.hid hcell
   have HFD:=Lib.hid hFD
   have HWM:=Lib.hid hwm
   clear hcell hD q1 q2 hFD hVi hDV hVo hwm
   go_wp2_with (first |(refine wpList_load_mid rfl tFn _ rfl g (o+i*4) rfl [.int .i64 D.p,.bool D.u,.slice A1 D.ls.length c1,.slice A2 D.bs.length c2] _ HCL.out Tryz.underlying40 rfl fnR ?_)|(go_at_call 54;refine HFD.out.mono ?_;rintro e w9 ⟨rfl,wr9,wt9⟩))
   go_roundg (Ds.length-(i+1))
   case measure=>omega
   case rel=>exact⟨i+1,by simp,by omega,rfl,by rw[HNX.out,<-af9];exact wr9,HO.out.trans ((HWM.out.trans wt9).bel.mono hbb)⟩
  ·obtain rfl:i=Ds.length:=by omega
   have hz:Num.put (Ds.length:Nat)++J3 (Vs.take Ds.length)=pgB Vs:=by rw[HN.out,afq];rfl
   rw[hz]at HWR
   have HZ:=Lib.hid hz
   clear hz hfl
   rcases afp 4000 (pgB Vs).length with hbig|hsm
   ·go_wp2_with (go_at_call 55;refine(a5V HWR.out hbig).mono ?_;rintro e w9 ⟨rfl,rfl⟩)
    go_ret2
    exact⟨HO.out,.inl ⟨hbig,rfl⟩⟩
   ·go_wp2_with (go_at_call 55;refine(a6m HWR.out hsm).mono ?_;rintro e w9 ⟨s,rfl,own9,rfl⟩)
    go_ret2
    exact⟨HO.out,.inr ⟨hsm,_,rfl,DN own9 (by omega)⟩⟩
open prg (Fz jX zQ)
theorem FH {P:Program}{fn:Func}{p:Tmp}{ty:TypeId}{u:Tmp}(h:fn.results=#[.cell p ty,.tmp u])(tmps:Array Value)(w:World)(g:Nat)(t:TypeId)(cs:Array Value)(fr:Nat×Nat)(d:TypeDesc)
  (hp:tmps.getD p undef=.pointer (some ⟨g,0,none⟩)) (hg:w.heap[g]? =some (.cells cs t fr))
  (hu:P.underlying ty=some d) (hd:(match d with | .struct _| .array _ _=>true|_=>false)=true) (hi:(P.info? ty).map (·.size)=some cs.size):
  (results fn tmps).run P w=.ok (.tuple #[.agg cs,tmps.getD u undef]) w:=by
 have hp':tmps[p]?.getD undef=.pointer (some ⟨g,0,none⟩):=by simpa using hp
 simp[results,h,hp',asAddr,run_loadVar_row w g t ty cs fr d hg hu hd hi]
theorem ae9:(Tryz.prog.info? 24).map (·.size)=some 1:=by kernel_rfl
def aer (Vs:List FnV)(w:World)(e:Ending)(w':World):Prop:=∃fv Ds,e=.returned (.tuple #[.agg #[fv],.int .i64 0])/\dS w' (.agg #[fv]) fv Ds/\Ds.map FnD.core=Vs.map FnV.core/\Below w.heap.size w w'
theorem a9q {w:World}{A:Option Addr}{c:Nat}{xs:List Int}(hr:Row w w.heap.size .u8 A xs)(hb:∀c∈xs,0<=c/\c<256)(hc:xs.length<=c)(hm:xs.length<=4000){Vs:List FnV}(hx:xs=pgB Vs)(hk:∀V∈Vs,V.ok)(v0:0<Vs.length)(v8:Vs.length<=8)(hck:∀Ds:List FnD,Ds.map FnD.core=Vs.map FnV.core->jX Ds=0):
  Calls Tryz.prog 17 #[.slice A xs.length c] w (aer Vs w):=by
 have hI:Inp w (w.heap.size+1) A c xs:=⟨ahC _,hr,hb,hc,hm⟩
 have HR:=Lib.hid (show Rd w (w.heap.size+1) A c xs 0 ((w.alloc (.cells #[.slice none 0 0] 24 (0,0))).alloc (.cells #[.slice A xs.length c,.int .i64 0,.int .i64 0] 124 (0,0)))from⟨((ahE _ w).alloc (aeM _) _).alloc (by simp) _,ay (by simp)⟩)
 have hA:At xs 0 (Num.put (Vs.length:Nat)++Vs.flatMap FnV.b):=⟨[],[],by rw[hx];simp[pgB,J3],rfl⟩
 have hlen:xs.length=0+(Num.put (Vs.length:Nat)++Vs.flatMap FnV.b).length:=by rw[hx];simp[pgB,J3]
 have HK:=Lib.hid hk
 have HCK:=Lib.hid hck
 have H1:=Lib.hid (λ(W1:World) (hR1:Rd w (w.heap.size+1) A c xs 0 W1)=>a4T (.inr (.inr (.inr (.inr ⟨rfl,rfl,rfl,rfl,rfl⟩)))) hI hR1 (X:=_) (El:=λv W cs=>SC (w.heap.size+1) v W cs) (λ_ _ _ _ h k=>h.keep (by decide) (by decide) (by decide) (by decide) k) (b:=FnV.b) (ls:=Vs) (lo:=1) (hi:=8) (by decide) (by omega) (by omega) (by decide) hA (λa ha W2 j k1 r1 a1=>adq hI r1 (hk a ha) a1))
 rw[<-hlen]at H1
 have hmf:∀(fn:Fn) (first cap:Array Value) (w:World),(Instr.makeFunc fn first cap).run Tryz.prog w=.ok (.func fn first cap) w:=λ_ _ _ _=>rfl
 have hnl:¬((4000:Int)<(xs.length:Int)):=by omega
 have hml:(xs.length:Int)<=4000:=by omega
 have hd1:decide ((xs.length:Int)>4000)=false:=af2 (by omega)
 have hd2:decide ((xs.length:Int)<(xs.length:Int))=false:=af2 (by omega)
 clear hI hr hb hx hk hck hA hlen
 go_enter Tryz.func17,Tryz.ntmps17
 go_upto_region 5 with(go_at_call 56;refine(H1.out _ HR.out).mono ?_;rintro e w5 ⟨fv,rfl,rd5,kp5,els,own5,all5⟩;obtain⟨Af,cf,rfl⟩:=own5.slice)
 have hb2:w.heap.size+1+1<=((w.alloc (Obj.cells #[Value.slice none 0 0] 24)).alloc (Obj.cells #[Value.slice A xs.length c,Value.int IntKind.i64 0,Value.int IntKind.i64 0] 124)).heap.size:=by simp
 have hown:=own5.base hb2
 obtain⟨Ds,hp,hcore⟩:=QK hown all5 HK.out
 have hH5:=kp5.at (k:=w.heap.size) (by simp;omega) (by omega) (dA (ay rfl))
 have hp9:=hp.below (((ahE _ w5).alloc (aeM _) (Obj.cells #[Value.slice Af els.length cf] 24)))
 have ho9:Lib.OthersKept 24 (some (w.heap.size+1)) w5 (w5.alloc (Obj.cells #[Value.slice Af els.length cf] 24)):=(Lib.OthersKept.refl _ _ w5).alloc _
 have rd9:=rd5.alloc (Obj.cells #[Value.slice Af els.length cf] 24)
 have h59:(w5.alloc (Obj.cells #[Value.slice Af els.length cf] 24)).heap[w5.heap.size]? =some (.cells #[Value.slice Af els.length cf] 24 (0,0)):=ay rfl
 have hH9:=dA (o:=Obj.cells #[Value.slice Af els.length cf] 24) hH5
 have HC:=Lib.hid (zQ hp9 _ (ahE _ _))
 rw[HCK.out Ds hcore]at HC
 have HOWN:=Lib.hid hown
 have HALL:=Lib.hid all5
 clear hp hp9 rd5 kp5 hH5 own5 all5 hb2 hown
 generalize hw9:w5.alloc _=w9 at *
 have HO9:=Lib.hid ho9
 have H59:=Lib.hid h59
 have HH9:=Lib.hid hH9
 have HB9:=Lib.hid rd9.b
 have q5:w9.cell? ⟨w5.heap.size,0,none⟩=some (Value.slice Af els.length cf):=by rw[Lib.cell_of_heap h59];rfl
 obtain⟨y0,y1,y2⟩:=rd9.cells
 clear ho9 h59 hH9 rd9 hw9
 go_upto_region 10 with(go_at_call 43;refine HC.out.mono ?_;rintro e w10 ⟨rfl,b10⟩)
 have h510:=(b10.block _ (aeN.1 H59.out).1).trans H59.out
 have hH10:=(b10.block _ (aeN.1 HH9.out).1).trans HH9.out
 have q10:w10.cell? ⟨w5.heap.size,0,none⟩=some (Value.slice Af els.length cf):=by rw[Lib.cell_of_heap h510];rfl
 have z10:w10.cell? ⟨w.heap.size,0,none⟩=some (Value.slice none 0 0):=by rw[Lib.cell_of_heap hH10];rfl
 have f10:w10.frozen? ⟨w.heap.size,0,none⟩=false:=Lib.frozen_of_heap hH10 0
 have HHX:=Lib.hid hH10
 have HOF:=Lib.hid (Lib.OthersKept.setRowCell (Lib.OthersKept.below HO9.out b10) hH10 0 (Value.slice Af els.length cf))
 have HBF:=Lib.hid ((HB9.out.trans (b10.mono HB9.out.size)).setCell (p:=⟨w.heap.size,0,none⟩) (aeM _) (Value.slice Af els.length cf))
 clear h510 hH10 b10 y0 y1 y2 q5
 have hhf:=heap_setCell_same w10 w.heap.size 0 _ _ (Value.slice Af els.length cf) HHX.out
 go_wp2_with fail
 refine ahP (FH rfl _ _ w.heap.size 24 _ (0,0) _ rfl hhf Tryz.underlying24 rfl ae9) rfl ?_
 obtain⟨Ds',hp',hc'⟩:=QK (HOWN.out.keep (afF _) (by decide) HOF.out) (HALL.out.imp λb cs k=>k.keep (by decide) (by decide) (by decide) (by decide) HOF.out) HK.out
 exact⟨_,Ds',rfl,hp',hc',HBF.out⟩
end enc
namespace top
open Go.RowKit Am loan bld enc
open txt (tFn tBk lD)
open prg (Fz tPr zQ O9 jZ jX qO)
def aJ:List Value:=[.int .u8 5,.int .u8 0,.int .i64 0,.int .i64 0,.bool false,.int .u8 0,.int .i64 0,.int .i64 0,.int .i64 0]
def aB:bU:=⟨.slice none 0 0,aJ,.slice none 0 0,[.int .i64 0,.bool false,.int .u8 0],[],[]⟩
def aD (lv bv:Value):FnD:=⟨0,false,lv,bv,[[.int .u8 2,.int .u8 0]],[aB],⟨.slice none 0 0,[]⟩⟩
def aV:FnV:=⟨0,false,[(2,0)],[⟨[],.abort,[]⟩]⟩
def aT:List UInt8:=[102,110,32,48,32,40,48,41,10,120,48,58,32,112,97,105,114,10,98,48,58,10,32,32,97,98,111,114,116,10]
theorem NU (lv bv:Value):[aD lv bv].map FnD.core=[aV].map FnV.core:=rfl
theorem a2y:∀V∈[aV],V.ok:=λV hV=>by
 rw[aeR.1 hV]
 exact⟨by decide,by decide,by decide,λt ht=>by rw[aeR.1 ht];decide,by decide,by decide,λb hb=>by rw[aeR.1 hb];exact⟨by decide,λs hs=>(by cases hs),rfl⟩⟩
theorem a4U (lv bv:Value):jX [aD lv bv]=0:=by
 rw[qO (Ds:=[aD lv bv]) (Es:=[aD qj qj]) rfl];kernel_rfl
theorem aaZ:jZ 0 [aD qj qj]=aT:=by kernel_rfl
theorem a8Q:(pgB [aV]).length<=4000:=by
 have:Nat.ble (pgB [aV]).length 4000=true:=by kernel_rfl
 exact aff this
theorem zI:∀{Ds Es:List FnD} {j:Nat},Ds.map FnD.core=Es.map FnD.core->jZ j Ds=jZ j Es
 |[],[],_,_=>rfl
 |[],_::_,_,h=>by cases h
 |_::_,[],_,h=>by cases h
 |D::Ds,E::Es,j,h=>by
  injection h with h1 h2
  show txt.textF D j++jZ (j+1) Ds=txt.textF E j++jZ (j+1) Es
  rw[txt.YX h1,zI h2]
theorem a2D (w:World)(sz:Nat):bT w (.slice none 0 0) sz []:=⟨⟨none,0,rfl⟩,by simp,λi el h=>by simp at h,λi el h=>by simp at h,λh=>absurd rfl h⟩
theorem aaC {w:World}{H1 H2 H3:Nat}{t1 t2 t3:TypeId}(h1:w.heap[H1]? =some (.cells #[.int .u8 2,.int .u8 0] t1 (0,0)))(h2:w.heap[H2]? =some (.cells aB.cells.toArray t2 (0,0)))(h3:w.heap[H3]? =some (.cells #[.int .i64 0,.bool false,.slice (some ⟨H1,0,none⟩) 1 1,.slice (some ⟨H2,0,none⟩) 1 1] t3 (0,0))):
  dS w (.agg #[.slice (some ⟨H3,0,none⟩) 1 1]) (.slice (some ⟨H3,0,none⟩) 1 1) [aD (.slice (some ⟨H1,0,none⟩) 1 1) (.slice (some ⟨H2,0,none⟩) 1 1)]:=by
 refine⟨rfl,bT.of_block h3 rfl (by decide),λD hD=>?_⟩
 rw[aeR.1 hD]
 refine⟨rfl,⟨0,rfl,by decide,by decide⟩,bT.of_block h1 rfl (by decide),λt ht=>?_,bT.of_block h2 rfl (by decide),λb hb=>?_⟩
 ·rw[aeR.1 ht]
  exact⟨⟨_,rfl,by decide,by decide⟩,⟨_,rfl,by decide,by decide⟩,trivial⟩
 ·rw[aeR.1 hb]
  refine⟨a2D w 26,λs hs=>(by cases hs),?_,a2D w 5,λo ho=>(by cases ho),?_⟩
  ·exact⟨⟨_,rfl,by decide,by decide⟩,⟨_,rfl,by decide,by decide⟩,⟨_,rfl,by decide,by decide⟩,⟨_,rfl,by decide,by decide⟩,⟨_,rfl⟩,⟨_,rfl,by decide,by decide⟩,⟨_,rfl,by decide,by decide⟩,⟨_,rfl,by decide,by decide⟩,⟨_,rfl,by decide,by decide⟩,trivial⟩
  ·exact⟨⟨_,rfl,by decide,by decide⟩,⟨_,rfl⟩,⟨_,rfl,by decide,by decide⟩,trivial⟩
theorem Oj {w:World}(kt:iq w):Calls Tryz.prog 5 #[] w (bld.Ans w (.bool true)):=by
 have HK:=Lib.hid kt
 clear kt
 go_enter Tryz.func5,Tryz.ntmps5
 go_upto_region 2 with fail
 have hP:=aaC (H1:=w.heap.size) (H2:=w.heap.size+1) (H3:=w.heap.size+1+1) (w:=(((w.alloc (.cells #[.int .u8 2,.int .u8 0] 88)).alloc (.cells aB.cells.toArray tBk)).alloc (.cells #[.int .i64 0,.bool false,.slice (some ⟨w.heap.size,0,none⟩) 1 1,.slice (some ⟨w.heap.size+1,0,none⟩) 1 1] tFn)).alloc (.cells #[.slice (some ⟨w.heap.size+1+1,0,none⟩) 1 1] tPr)) (dA (dA (dA (ay rfl)))) (dA (dA (ay (by simp)))) (dA (ay (by simp)))
 have hb4:Below w.heap.size w ((((w.alloc (.cells #[.int .u8 2,.int .u8 0] 88)).alloc (.cells aB.cells.toArray tBk)).alloc (.cells #[.int .i64 0,.bool false,.slice (some ⟨w.heap.size,0,none⟩) 1 1,.slice (some ⟨w.heap.size+1,0,none⟩) 1 1] tFn)).alloc (.cells #[.slice (some ⟨w.heap.size+1+1,0,none⟩) 1 1] tPr)):=((((ahE _ w).alloc (aeM _) _).alloc (by simp) _).alloc (by simp;omega) _).alloc (by simp;omega) _
 have p4:((((w.alloc (.cells #[.int .u8 2,.int .u8 0] 88)).alloc (.cells aB.cells.toArray tBk)).alloc (.cells #[.int .i64 0,.bool false,.slice (some ⟨w.heap.size,0,none⟩) 1 1,.slice (some ⟨w.heap.size+1,0,none⟩) 1 1] tFn)).alloc (.cells #[.slice (some ⟨w.heap.size+1+1,0,none⟩) 1 1] tPr)).cell? ⟨w.heap.size+1+1+1,0,none⟩=some (.slice (some ⟨w.heap.size+1+1,0,none⟩) 1 1):=ahF _ _ 0 _ tPr (0,0) (ay (by simp))
 change Code.wp _ _ _ _ ((((w.alloc (.cells #[.int .u8 2,.int .u8 0] 88)).alloc (.cells aB.cells.toArray tBk)).alloc (.cells #[.int .i64 0,.bool false,.slice (some ⟨w.heap.size,0,none⟩) 1 1,.slice (some ⟨w.heap.size+1,0,none⟩) 1 1] tFn)).alloc (.cells #[.slice (some ⟨w.heap.size+1+1,0,none⟩) 1 1] tPr))
 generalize (((w.alloc (.cells #[.int .u8 2,.int .u8 0] 88)).alloc (.cells aB.cells.toArray tBk)).alloc (.cells #[.int .i64 0,.bool false,.slice (some ⟨w.heap.size,0,none⟩) 1 1,.slice (some ⟨w.heap.size+1,0,none⟩) 1 1] tFn)).alloc (.cells #[.slice (some ⟨w.heap.size+1+1,0,none⟩) 1 1] tPr)=w4 at *
 have hC4:=zQ hP
 rw[a4U]at hC4
 have HBY:=Lib.hid (Vw hP a2y (NU _ _) (by show 1<=8;decide) hC4)
 have HB4:=Lib.hid hb4
 clear hP hC4 hb4
 go_upto_region 3 with(go_at_call 16;refine HBY.out.mono ?_;rintro e w5 ⟨b5,⟨h5,_⟩|⟨_,s,rfl,ho5⟩⟩;exact absurd a8Q (by omega);obtain⟨A5,c5,rfl,hc5,_,hr5,_⟩:=Row.Em ho5)
 have HD:=Lib.hid (a9q hr5 (VR a2y (by decide)) hc5 a8Q rfl a2y (by decide) (by decide) λDs hDs=>by rw[qO (hDs.trans (NU qj qj).symm)];exact a4U qj qj)
 have HB5:=Lib.hid (HB4.out.trans (b5.mono HB4.out.size))
 clear ho5 hr5 hc5 b5 p4 HBY
 generalize (pgB [aV]).length=L at *
 go_upto_region 4 with(go_at_call 17;refine HD.out.mono ?_;rintro e w6 ⟨fv,Es,rfl,hP6,hc6,b6⟩;obtain⟨A6,c6,e6,e7,_⟩:=hP6.rows;subst e7)
 have hP7:=hP6.below ((ahE _ w6).alloc (aeM _) (.cells #[.slice A6 Es.length c6] tPr))
 have hb7:=(HB5.out.trans (b6.mono HB5.out.size)).alloc (HB5.out.trans (b6.mono HB5.out.size)).size (.cells #[.slice A6 Es.length c6] tPr)
 have ht:jZ 0 Es=aT:=(zI (hc6.trans (NU qj qj).symm)).trans aaZ
 have hT:=O9 hP7 (lD HK.out hb7) (by rw[qO (hc6.trans (NU qj qj).symm)];exact a4U qj qj)
 rw[ht]at hT
 have HT:=Lib.hid hT
 have HB7:=Lib.hid hb7
 have p7:(w6.alloc (.cells #[.slice A6 Es.length c6] tPr)).cell? ⟨w6.heap.size,0,none⟩=some (.slice A6 Es.length c6):=ahF _ _ 0 _ tPr (0,0) (ay rfl)
 clear hP7 hb7 ht hT hP6 hc6 b6 HD
 generalize w6.alloc (.cells #[.slice A6 Es.length c6] tPr)=w7 at *
 generalize w6.heap.size=Y at *
 generalize Es.length=n at *
 go_upto_region 5 with(go_at_call 10;refine HT.out.mono ?_;rintro e w8 ⟨rfl,b8⟩)
 unfold aT
 go_wp2_with fail
 go_ret
 exact⟨rfl,HB7.out.trans (b8.mono HB7.out.size)⟩
