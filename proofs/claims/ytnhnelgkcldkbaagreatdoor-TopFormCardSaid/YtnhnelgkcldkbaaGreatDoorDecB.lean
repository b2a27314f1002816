/- decode's reader: where it stands; num. decode: places and operands. decode: a box that is being filled while the reader goes on. -/
import Derived.Test.YtnhnelgkcldkbaaGreatDoorEncV
set_option linter.all false
set_option maxHeartbeats 4000000
set_option maxRecDepth 100000
open Int renaming tmod_eq_emod_of_nonneg → aia
namespace Go.Proofs.YtnhnelgkcldkbaaGreatDoor
namespace enc
open Go.RowKit Am loan bld
abbrev tRd:TypeId:=124
structure Inp (w0:World)(r:Nat)(A:Option Addr)(c:Nat)(xs:List Int):Prop where
 r:w0.heap.size<=r
 row:Row w0 w0.heap.size .u8 A xs
 byt:∀c∈xs,0<=c/\c<256
 cap:xs.length<=c
 most:xs.length<=4000
structure Rd (w0:World)(r:Nat)(A:Option Addr)(c:Nat)(xs:List Int)(i:Nat)(W:World):Prop where
 b:Below w0.heap.size w0 W
 x:W.heap[r]? =some (.cells #[.slice A xs.length c,.int .i64 (i:Nat),.int .i64 0] tRd (0,0))
theorem Rd.lt {w0:World}{r:Nat}{A:Option Addr}{c:Nat}{xs:List Int}{i:Nat}{W:World}(h:Rd w0 r A c xs i W):r<W.heap.size:=(aeN.1 h.x).1
theorem Rd.alloc {w0:World}{r:Nat}{A:Option Addr}{c:Nat}{xs:List Int}{i:Nat}{W:World}(h:Rd w0 r A c xs i W)(o:Obj):Rd w0 r A c xs i (W.alloc o):=⟨h.b.alloc h.b.size o,dA h.x⟩
theorem Rd.cells {w0:World}{r:Nat}{A:Option Addr}{c:Nat}{xs:List Int}{i:Nat}{W:World}(h:Rd w0 r A c xs i W):W.cell? ⟨r,0,none⟩=some (.slice A xs.length c)/\W.cell? ⟨r,1,none⟩=some (.int .i64 (i:Nat))/\W.cell? ⟨r,2,none⟩=some (.int .i64 0):=by
 refine⟨?_,?_,?_⟩<;>(rw[Lib.cell_of_heap h.x];rfl)
structure Kp (r n:Nat)(W W':World):Prop where
 size:W.heap.size<=W'.heap.size
 blk:∀k,k<n->k≠r->W'.heap[k]? =W.heap[k]?
theorem Kp.refl (r n:Nat)(W:World):Kp r n W W:=⟨aeM _,λ_ _ _=>rfl⟩
theorem Kp.trans {r n:Nat}{x y z:World}(h:Kp r n x y)(k:Kp r n y z):Kp r n x z:=⟨afv h.size k.size,λi hi hr=>(k.blk i hi hr).trans (h.blk i hi hr)⟩
theorem Kp.mono {r n m:Nat}{x y:World}(h:Kp r n x y)(hm:m<=n):Kp r m x y:=⟨h.size,λi hi hr=>h.blk i (by omega) hr⟩
theorem Kp.alloc {r n:Nat}{x y:World}(h:Kp r n x y)(hn:n<=y.heap.size)(o:Obj):Kp r n x (y.alloc o):=⟨afv h.size (by simp),λi hi hr=>by
 have:(y.alloc o).heap[i]? =y.heap[i]? :=by
  cases hy:y.heap[i]? with
  |none=>rw[Array.getElem?_eq_none_iff]at hy;omega
  |some x=>exact dA hy
 rw[this];exact h.blk i hi hr⟩
theorem Kp.at {r n k:Nat}{x y:World}{o:Obj}(h:Kp r n x y)(hk:k<n)(hr:k≠r)(ho:x.heap[k]? =some o):y.heap[k]? =some o:=(h.blk k hk hr).trans ho
def Got (w0:World)(r:Nat)(A:Option Addr)(c:Nat)(xs:List Int)(i:Nat)(W:World)(v:Value)(e:Ending)(W':World):Prop:=e=.returned v/\Rd w0 r A c xs i W'/\Kp r W.heap.size W W'
theorem Rd.set {w0:World}{r:Nat}{A:Option Addr}{c:Nat}{xs:List Int}{i j:Nat}{W:World}(hr:w0.heap.size<=r)(h:Rd w0 r A c xs i W):Rd w0 r A c xs j ((W.setCell ⟨r,2,none⟩ (.int .i64 0)).setCell ⟨r,1,none⟩ (.int .i64 (j:Nat)))/\Kp r W.heap.size W ((W.setCell ⟨r,2,none⟩ (.int .i64 0)).setCell ⟨r,1,none⟩ (.int .i64 (j:Nat))):=by
 have h1:=heap_setCell_same W r 2 _ _ (.int .i64 0) h.x
 have h2:=heap_setCell_same _ r 1 _ _ (.int .i64 (j:Nat)) h1
 refine⟨⟨(h.b.setCell (p:=⟨r,2,none⟩) hr _).setCell (p:=⟨r,1,none⟩) hr _,h2⟩,⟨by simp[World.setCell],λk _ hk=>?_⟩⟩
 rw[ahM _ ⟨r,1,none⟩ k _ hk,ahM _ ⟨r,2,none⟩ k _ hk]
theorem tC {w0:World}{r:Nat}{A:Option Addr}{c:Nat}{xs:List Int}(hI:Inp w0 r A c xs){i:Nat}{W:World}(hR:Rd w0 r A c xs i W){n lo hi:Int}(hA:At xs i (Num.put n))(l0:0<=lo)(l1:lo<=n)(h1:n<=hi)(h2:hi<=1000):
  Calls Tryz.prog 111 #[.pointer (some ⟨r,0,none⟩),.int .i64 lo,.int .i64 hi] W (Got w0 r A c xs (i+(Num.put n).length) W (.int .i64 n)):=by
 have hget:=hA.get (by omega) (by omega)
 have hil:=hA.le
 have hm:=hI.most
 have HG:=Lib.hid (λ(W1:World) (hb:Below w0.heap.size w0 W1)=>get_any A c w0.heap.size xs (i:Nat) W1 (hI.row.below hb (aeM _)) hI.byt hI.cap (by omega) (by omega) (by omega))
 rw[hget]at HG
 have HIr:=hI.r
 have HR:=Lib.hid hR
 have hfr:∀o,W.frozen? ⟨r,o,none⟩=false:=λo=>Lib.frozen_of_heap hR.x o
 generalize hJ:i+(Num.put n).length=j at *
 have HJ:=Lib.hid hJ
 clear hJ hget hA hI hR
 have hw1:IntKind.u64.wrap lo=lo:=wrap_u64 l0 (by omega)
 have hw2:IntKind.u64.wrap hi=hi:=wrap_u64 (by omega) (by omega)
 have hw3:IntKind.u64.wrap n=n:=wrap_u64 (by omega) (by omega)
 have hn1:¬n<lo:=by omega
 have hn2:¬n>hi:=by omega
 have hd1:decide (n<lo)=false:=af2 hn1
 have hd2:decide (n>hi)=false:=af2 hn2
 obtain⟨y0,y1,y2⟩:=HR.out.cells
 go_enter Tryz.func111,Tryz.ntmps111
 go_upto_region 3 with fail
 refine bH [⟨r,0,none⟩,⟨r,1,none⟩] [(0,true),(1,true),(2,true),(3,true),(4,true),(5,true),(6,true),(7,true),(8,false),(9,true),(10,true),(11,true),(12,true),(13,true),(14,true),(15,true)] (by kernel_rfl) (by kernel_rfl) (by decide) (by kernel_rfl) (λ_ _ _ _ _ h=>h) ?_
 have HRD:=Lib.hid (show Rd w0 r A c xs i W.drew from⟨HR.out.b.drew,HR.out.x⟩)
 have HKD:=Lib.hid (show Kp r W.heap.size W W.drew from⟨aeM _,λ_ _ _=>rfl⟩)
 clear y0 y1 y2 hfr
 generalize W.drew=wd at *
 obtain⟨y0,y1,y2⟩:=HRD.out.cells
 iterate 8 (refine SeqC.take (v:=?_) rfl (by rfl) (λW hW=>?_) ?_;rotate_left;(focus(have zy0:=hW.get (by simp) y0;have zy1:=hW.get (by simp) y1;go_simp;with_reducible rfl));simp only[Act.put,aeJ,aeP,aeO])
 refine SeqC.call (f:=?_) (args:=?_) rfl (by rfl) ?_ ?_
 rotate_left 2
 ·(go_simp;first |with_reducible rfl|(refine⟨?_,?_⟩<;>with_reducible rfl))
 refine(HG.out _ HRD.out.b).mono ?_
 rintro e w2 ⟨rfl,rfl⟩
 refine⟨_,rfl,Cells.refl _ _,?_⟩
 simp only[Act.put,aeJ,aeP,aeO]
 iterate 7 (refine SeqC.take (v:=?_) rfl (by rfl) (λW hW=>?_) ?_;rotate_left;(focus(go_simp;with_reducible rfl));simp only[Act.put,aeJ,aeP,aeO])
 refine SeqC.done ?_
 have f1:wd.frozen? ⟨r,1,none⟩=false:=Lib.frozen_of_heap HRD.out.x 1
 have f2:wd.frozen? ⟨r,2,none⟩=false:=Lib.frozen_of_heap HRD.out.x 2
 have HS:=Lib.hid (Rd.set (j:=j) HIr HRD.out)
 go_wp2_with fail
 go_ret
 exact⟨rfl,HS.out.1,HKD.out.trans (HS.out.2.mono HKD.out.size)⟩
theorem lG {w0:World}{r:Nat}{A:Option Addr}{c:Nat}{xs:List Int}(hI:Inp w0 r A c xs){i:Nat}{W:World}(hR:Rd w0 r A c xs i W){n lo hi:Int}(hA:At xs i (Num.put n))(l0:0<=lo)(l1:lo<=n)(h1:n<=hi)(h2:hi<=255):
  Calls Tryz.prog 201 #[.pointer (some ⟨r,0,none⟩),.int .u8 lo,.int .u8 hi] W (Got w0 r A c xs (i+(Num.put n).length) W (.int .u8 n)):=by
 have hget:=hA.get (by omega) (by omega)
 have hil:=hA.le
 have hm:=hI.most
 have HG:=Lib.hid (λ(W1:World) (hb:Below w0.heap.size w0 W1)=>get_any A c w0.heap.size xs (i:Nat) W1 (hI.row.below hb (aeM _)) hI.byt hI.cap (by omega) (by omega) (by omega))
 rw[hget]at HG
 have HIr:=hI.r
 have HR:=Lib.hid hR
 have hfr:∀o,W.frozen? ⟨r,o,none⟩=false:=λo=>Lib.frozen_of_heap hR.x o
 generalize hJ:i+(Num.put n).length=j at *
 have HJ:=Lib.hid hJ
 clear hJ hget hA hI hR
 have hw1:IntKind.u64.wrap lo=lo:=wrap_u64 l0 (by omega)
 have hw2:IntKind.u64.wrap hi=hi:=wrap_u64 (by omega) (by omega)
 have hw3:IntKind.u64.wrap n=n:=wrap_u64 (by omega) (by omega)
 have hn1:¬n<lo:=by omega
 have hn2:¬n>hi:=by omega
 have hd1:decide (n<lo)=false:=af2 hn1
 have hd2:decide (n>hi)=false:=af2 hn2
 obtain⟨y0,y1,y2⟩:=HR.out.cells
 go_enter Tryz.func201,Tryz.ntmps201
 go_upto_region 3 with fail
 refine bH [⟨r,0,none⟩,⟨r,1,none⟩] [(0,true),(1,true),(2,true),(3,true),(4,true),(5,true),(6,true),(7,true),(8,false),(9,true),(10,true),(11,true),(12,true),(13,true),(14,true),(15,true)] (by kernel_rfl) (by kernel_rfl) (by decide) (by kernel_rfl) (λ_ _ _ _ _ h=>h) ?_
 have HRD:=Lib.hid (show Rd w0 r A c xs i W.drew from⟨HR.out.b.drew,HR.out.x⟩)
 have HKD:=Lib.hid (show Kp r W.heap.size W W.drew from⟨aeM _,λ_ _ _=>rfl⟩)
 clear y0 y1 y2 hfr
 generalize W.drew=wd at *
 obtain⟨y0,y1,y2⟩:=HRD.out.cells
 iterate 8 (refine SeqC.take (v:=?_) rfl (by rfl) (λW hW=>?_) ?_;rotate_left;(focus(have zy0:=hW.get (by simp) y0;have zy1:=hW.get (by simp) y1;go_simp;with_reducible rfl));simp only[Act.put,aeJ,aeP,aeO])
 refine SeqC.call (f:=?_) (args:=?_) rfl (by rfl) ?_ ?_
 rotate_left 2
 ·(go_simp;first |with_reducible rfl|(refine⟨?_,?_⟩<;>with_reducible rfl))
 refine(HG.out _ HRD.out.b).mono ?_
 rintro e w2 ⟨rfl,rfl⟩
 refine⟨_,rfl,Cells.refl _ _,?_⟩
 simp only[Act.put,aeJ,aeP,aeO]
 iterate 7 (refine SeqC.take (v:=?_) rfl (by rfl) (λW hW=>?_) ?_;rotate_left;(focus(go_simp;with_reducible rfl));simp only[Act.put,aeJ,aeP,aeO])
 refine SeqC.done ?_
 have f1:wd.frozen? ⟨r,1,none⟩=false:=Lib.frozen_of_heap HRD.out.x 1
 have f2:wd.frozen? ⟨r,2,none⟩=false:=Lib.frozen_of_heap HRD.out.x 2
 have HS:=Lib.hid (Rd.set (j:=j) HIr HRD.out)
 go_wp2_with fail
 go_ret
 exact⟨rfl,HS.out.1,HKD.out.trans (HS.out.2.mono HKD.out.size)⟩
theorem vU {P:Program}{ops:Array Oper}{rest:List Oper}{op:Oper}{a:Act}{W:World}{Q:Exit->Act->World->Prop}(hgd:op.guard=none)(ty:TypeId)(x y:Operand)(ho:op.op=.store ty x y)(hd:op.dst=none)
  (b o:Nat) (vs:List Value) (hx:a.eval x=.pointer (some ⟨b,o,none⟩)) (hy:a.eval y=.agg vs.toArray) {C:List Value} {T:TypeId} (hb:W.heap[b]? =some (.cells C.toArray T (0,0))) (hfit:o+vs.length<=C.length) (hi:(P.info? ty).map (·.size)=some vs.length) (h1:∀u∈vs,u.oneCell'=true)
  (h:∀W',W'.heap[b]? =some (.cells (C.take o++(vs++C.drop (o+vs.length))).toArray T (0,0))->(∀k,k≠b->W'.heap[k]? =W.heap[k]?)->W'.heap.size=W.heap.size->(∀B,B<=b->Below B W W')->wpList P ops Q rest a W'):wpList P ops Q (op::rest) a W:=by
 letI:Base:=(⟨W,[],[]⟩:Env).b
 obtain⟨D,g1,g2,g3,g4,g5,g6,g7⟩:=setCells_at vs o C.toArray W hb (by simpa using hfit)
 refine wpList_store_mid hgd ty x y ho b o vs.toArray hx hy (ET hb (by simpa using hfit)) (by simpa using hi) (all_oneCell_toArray h1) ?_
 rw[hd]
 have e:D=(C.take o++(vs++C.drop (o+vs.length))).toArray:=by
  apply agX
  simpa using g2
 subst e
 simp only[Act.put]
 exact h _ g1 g3 g7 λB hB=>⟨g4,g5,g6,by rw[g7];exact aeM _,λk hk=>g3 k (by omega)⟩
theorem Rd.put {w0:World}{r:Nat}{A:Option Addr}{c:Nat}{xs:List Int}{i b:Nat}{W W':World}(h:Rd w0 r A c xs i W)(hb:b≠r)(h0:w0.heap.size<=b)(hk:∀k,k≠b->W'.heap[k]? =W.heap[k]?)(hB:∀B,B<=b->Below B W W'):Rd w0 r A c xs i W':=⟨h.b.trans (hB _ h0),(hk r (Ne.symm hb)).trans h.x⟩
theorem Kp.put {r n b:Nat}{x W W':World}(h:Kp r n x W)(hb:n<=b)(hk:∀k,k≠b->W'.heap[k]? =W.heap[k]?)(hs:W'.heap.size=W.heap.size):Kp r n x W':=⟨by rw[hs];exact h.size,λk hn hr=>(hk k (by omega)).trans (h.blk k hn hr)⟩
theorem Ku {B g:Nat}{a w:World}(h:Below B a w)(hg:B<=g)(cs:Array Value):Below B a (w.setRow g cs):=h.trans ⟨rfl,rfl,rfl,by simp[World.setRow],λk hk=>setRow_other w g k cs (by omega)⟩
theorem plR:(Tryz.prog.info? 57).map (·.size)=some 3:=by kernel_rfl
theorem Ar:(Tryz.prog.info? 59).map (·.size)=some 5:=by kernel_rfl
theorem tH {W:World}{g:Nat}{cs:Array Value}:(∀k,k≠g->(W.setRow g cs).heap[k]? =W.heap[k]?)/\(W.setRow g cs).heap.size=W.heap.size:=by
 refine⟨λk hk=>?_,?_⟩
 ·simp only[World.setRow,ahc]
  rw[afc (λe=>hk e.symm)]
 ·simp[World.setRow]
theorem Rd.row {w0:World}{r:Nat}{A:Option Addr}{c:Nat}{xs:List Int}{i H:Nat}{W:World}(h:Rd w0 r A c xs i W)(hb:H≠r)(h0:w0.heap.size<=H)(cs:Array Value):Rd w0 r A c xs i (W.setRow H cs):=⟨Ku h.b h0 cs,(tH.1 r (Ne.symm hb)).trans h.x⟩
theorem Kp.row {r n H:Nat}{x W:World}(h:Kp r n x W)(hb:n<=H)(cs:Array Value):Kp r n x (W.setRow H cs):=h.put hb tH.1 tH.2
theorem SK {w0:World}{r:Nat}{A:Option Addr}{c:Nat}{xs:List Int}(hI:Inp w0 r A c xs){i:Nat}{W:World}(hR:Rd w0 r A c xs i W){p:PlV}(hp:p.ok)(hA:At xs i p.b):
  Calls Tryz.prog 202 #[.pointer (some ⟨r,0,none⟩)] W (Got w0 r A c xs (i+p.b.length) W (.agg p.c.toArray)):=by
 obtain⟨n0,n1,e1,e2,e3⟩:=PlV.parts hp
 have HC:=Lib.hid (λ(W1:World) (hR1:Rd w0 r A c xs i W1)=>tC hI hR1 (n:=p.n) (lo:=0) (hi:=95) hA (by decide) n0 n1 (by decide))
 have HIr:=Lib.hid hI.r
 have HR:=Lib.hid hR
 have hlt:=hR.lt
 have hf0:=hp.f0
 have hf1:=hp.f1
 unfold PlV.c PlV.b
 generalize hj:i+(Num.put p.n).length=j at *
 have HJ:=Lib.hid hj
 clear hA hI hR hp hj
 have t1:p.n.tdiv 6=p.l:=by rw[Int.tdiv_eq_ediv_of_nonneg n0];exact e1
 have t2:p.n.tmod 6=p.n%6:=aia n0
 have t3:p.n.tmod 3=p.f:=by rw[aia n0];exact e2
 have t5:IntKind.u8.wrap p.f=p.f:=by rw[IntKind.wrap_u8];omega
 have e4:(3<=p.n%6)=(p.d=true):=by rw[<-e3];simp
 generalize p.n=n at *
 go_enter Tryz.func202,Tryz.ntmps202
 go_upto_region 2 with(go_at_call 111;refine(HC.out _ (HR.out.alloc _)).mono ?_;rintro e w1 ⟨rfl,rd1,kp1⟩)
 have hh1:w1.heap[W.heap.size]? =some (.cells #[.int .i64 0,.bool false,.int .u8 0] tPl (0,0)):=kp1.at (by simp) (by omega) (ay rfl)
 go_upto_region 3 with(refine ahU rfl tPl _ _ rfl W.heap.size #[.int .i64 p.l,.bool p.d,.int .u8 p.f] rfl rfl tPl _ hh1 plR rfl (by simp[Value.oneCell']) ?_)
 have hh2:=ai9 w1 W.heap.size _ #[.int .i64 p.l,.bool p.d,.int .u8 p.f] tPl _ hh1
 refine ahP (ahN rfl _ _ W.heap.size tPl #[.int .i64 p.l,.bool p.d,.int .u8 p.f] (0,0) _ rfl hh2 Tryz.underlying57 rfl plR) rfl ?_
 exact⟨rfl,rd1.row (by omega) (by have:=HR.out.b.size;omega) _,(((Kp.refl r W.heap.size W).alloc (aeM _) _).trans (kp1.mono (by simp))).row (aeM _) _⟩
structure Bx (w0:World)(r:Nat)(A:Option Addr)(c:Nat)(xs:List Int)(T:TypeId)(W1:World)(cs:List Value)(i:Nat)(W:World):Prop where
 rd:Rd w0 r A c xs i W
 kp:Kp r W1.heap.size W1 W
 bx:W.heap[W1.heap.size]? =some (.cells cs.toArray T (0,0))
 rl:r<W1.heap.size
 w0:w0.heap.size<=W1.heap.size
theorem Bx.lt {w0:World}{r:Nat}{A:Option Addr}{c:Nat}{xs:List Int}{T:TypeId}{W1:World}{cs:List Value}{i:Nat}{W:World}(h:Bx w0 r A c xs T W1 cs i W):W1.heap.size<W.heap.size:=(aeN.1 h.bx).1
theorem Bx.new {P:Program}{ops:Array Oper}{rest:List Oper}{op:Oper}{a:Act}{Q:Exit->Act->World->Prop}{w0:World}{r:Nat}{A:Option Addr}{c:Nat}{xs:List Int}{W1:World}{i:Nat}(hgd:op.guard=none)(hd:op.dst=none)(ty:TypeId)(x y:Operand)(ho:op.op=.store ty x y)(T:TypeId)(z cs:List Value)(h:Rd w0 r A c xs i W1)(hz:z.length=cs.length)
  (hx:a.eval x=.pointer (some ⟨W1.heap.size,0,none⟩)) (hy:a.eval y=.agg cs.toArray) (hi:(P.info? ty).map (·.size)=some cs.length) (h1:∀u∈cs,u.oneCell'=true)
  (k:∀W',Bx w0 r A c xs T W1 cs i W'->wpList P ops Q rest a W'):wpList P ops Q (op::rest) a (W1.alloc (.cells z.toArray T (0,0))):=by
 refine vU hgd ty x y ho hd W1.heap.size 0 cs hx hy (C:=z) (T:=T) (ay rfl) (by omega) hi h1 (λW' g1 g2 g3 g4=>k W' ⟨(h.alloc _).put (by have:=h.lt;omega) h.b.size g2 g4,?_,?_,h.lt,h.b.size⟩)
 ·exact((Kp.refl r _ W1).alloc (aeM _) _).trans ⟨by rw[g3];exact aeM _,λi hi hr=>g2 i (by omega)⟩
 ·simp only[List.take_zero,agx,afK]at g1
  rwa[agS (by omega),aft]at g1
theorem Bx.put {P:Program}{ops:Array Oper}{rest:List Oper}{op:Oper}{a:Act}{W:World}{Q:Exit->Act->World->Prop}{w0:World}{r:Nat}{A:Option Addr}{c:Nat}{xs:List Int}{T:TypeId}{W1:World}{cs:List Value}{i:Nat}(hgd:op.guard=none)(hd:op.dst=none)(ty:TypeId)(x y:Operand)(ho:op.op=.store ty x y)(h:Bx w0 r A c xs T W1 cs i W)
  (o:Nat) (vs:List Value) (hx:a.eval x=.pointer (some ⟨W1.heap.size,o,none⟩)) (hy:a.eval y=.agg vs.toArray) (hfit:o+vs.length<=cs.length) (hi:(P.info? ty).map (·.size)=some vs.length) (h1:∀u∈vs,u.oneCell'=true)
  (k:∀W',Bx w0 r A c xs T W1 (cs.take o++(vs++cs.drop (o+vs.length))) i W'->wpList P ops Q rest a W'):wpList P ops Q (op::rest) a W:=
 vU hgd ty x y ho hd W1.heap.size o vs hx hy h.bx hfit hi h1 λW' g1 g2 g3 g4=>k W' ⟨h.rd.put (by have:=h.rl;omega) h.w0 g2 g4,h.kp.trans ⟨by rw[g3];exact aeM _,λi hi hr=>g2 i (by omega)⟩,g1,h.rl,h.w0⟩
theorem Bx.call {w0:World}{r:Nat}{A:Option Addr}{c:Nat}{xs:List Int}{T:TypeId}{W1:World}{cs:List Value}{i j:Nat}{W W':World}(h:Bx w0 r A c xs T W1 cs i W)(hr:Rd w0 r A c xs j W')(k:Kp r W.heap.size W W'):Bx w0 r A c xs T W1 cs j W':=
 ⟨hr,h.kp.trans (k.mono (afk h.lt)),k.at h.lt (by have:=h.rl;omega) h.bx,h.rl,h.w0⟩
theorem Bx.set {w0:World}{r:Nat}{A:Option Addr}{c:Nat}{xs:List Int}{T:TypeId}{W1:World}{cs:List Value}{i:Nat}{W:World}(h:Bx w0 r A c xs T W1 cs i W)(o:Nat)(v:Value):Bx w0 r A c xs T W1 (cs.set o v) i (W.setCell ⟨W1.heap.size,o,none⟩ v):=by
 have hr:=h.rl
 have h1:=heap_setCell_same W W1.heap.size o _ _ v h.bx
 rw[aeJ]at h1
 refine⟨⟨h.rd.b.setCell (p:=⟨W1.heap.size,o,none⟩) h.w0 v,(ahM _ ⟨W1.heap.size,o,none⟩ r _ (by show r≠W1.heap.size;omega)).trans h.rd.x⟩,h.kp.trans ⟨by simp[World.setCell],λk hk _=>ahM _ ⟨W1.heap.size,o,none⟩ k _ (by show k≠W1.heap.size;omega)⟩,h1,h.rl,h.w0⟩
theorem Bx.fz {w0:World}{r:Nat}{A:Option Addr}{c:Nat}{xs:List Int}{T:TypeId}{W1:World}{cs:List Value}{i:Nat}{W:World}(h:Bx w0 r A c xs T W1 cs i W)(o:Nat):W.frozen? ⟨W1.heap.size,o,none⟩=false:=Lib.frozen_of_heap h.bx o
theorem Bx.cell {w0:World}{r:Nat}{A:Option Addr}{c:Nat}{xs:List Int}{T:TypeId}{W1:World}{cs:List Value}{i:Nat}{W:World}(h:Bx w0 r A c xs T W1 cs i W)(o:Nat){v:Value}(hv:cs[o]? =some v):W.cell? ⟨W1.heap.size,o,none⟩=some v:=by
 rw[Lib.cell_of_heap h.bx]
 simpa using hv
theorem Bx.fin {w0:World}{r:Nat}{A:Option Addr}{c:Nat}{xs:List Int}{T:TypeId}{W1:World}{cs:List Value}{i:Nat}{W W0:World}(h:Bx w0 r A c xs T W1 cs i W){H:Nat}(k:Kp r W0.heap.size W0 W1)(hr:r<W0.heap.size)(hb:w0.heap.size<=W0.heap.size)(hH:W0.heap.size<=H)(v:Value)(hv:v=.agg cs.toArray):Got w0 r A c xs i W0 v (.returned (.agg cs.toArray)) (W.setRow H cs.toArray):=
 ⟨by rw[hv],h.rd.row (by omega) (by omega) _,(k.trans (h.kp.mono k.size)).row hH _⟩
