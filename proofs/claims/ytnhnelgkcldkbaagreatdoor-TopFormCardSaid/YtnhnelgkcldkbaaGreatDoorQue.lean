/- Words for walks over functions. -/
import Derived.Test.YtnhnelgkcldkbaaGreatDoorLineAt
set_option linter.all false
set_option maxRecDepth 100000
open Option renaming isSome_iff_exists → aia
open Array renaming getElem_push_lt → aib
open List renaming range → aic
namespace Go.Proofs.YtnhnelgkcldkbaaGreatDoor
namespace loan
open Go.RowKit Am
def dR (w:World)(A:Option Addr)(sz:Nat)(els:List (List Value)):Prop:=
 ∀i el,els[i]? =some el->∃g o,A=some ⟨g,o,none⟩/\g<w.heap.size/\w.rangeAt g (o+i*sz) el
theorem dR.below {w w':World}{A:Option Addr}{sz:Nat}{els:List (List Value)}(h:dR w A sz els)(hb:Below w.heap.size w w'):dR w' A sz els:=λi el hi=>by
 obtain⟨g,o,e,hg,hr⟩:=h i el hi
 exact⟨g,o,e,afe hg hb.size,λj v hj=>(hb.cell (p:=⟨g,o+i*sz+j,none⟩) hg).trans (hr j v hj)⟩
theorem bT.rows {w:World}{v:Value}{sz:Nat}{els:List (List Value)}(h:bT w v sz els)(hz:0<sz):∃A c,v=.slice A els.length c/\(els.length:Int)<=9223372036854775807/\dR w A sz els:=by
 obtain⟨A,c,e⟩:=h.sl
 refine⟨A,c,e,h.most,λi el hi=>?_⟩
 obtain⟨b,off,c',e',hc⟩:=h.at_ i el hi
 rw[e]at e'
 cases e'
 have hl:=h.len i el hi
 obtain⟨u,hu⟩:∃u,el[0]? =some u:=⟨_,aeK (by omega)⟩
 exact⟨b,off,rfl,ahK w ⟨b,off+i*sz+0,none⟩ (hc 0 u hu),hc⟩
theorem dR.own {w:World}{base:Nat}{e:TypeId}{sz n:Nat}{v:Value}{els:List (List Value)}(h:w.ownsRow base e sz v n els.flatten)(hn:els.length=n)(hz:0<sz)(hl:∀x∈els,x.length=sz):∃A c,v=.slice A els.length c/\dR w A sz els:=by
 subst hn
 obtain⟨A,c,e,_,r⟩:=bT.rows (bT.Em h hl) hz
 exact⟨A,c,e,r⟩
theorem rH {P:Program}{ops:Array Oper}{rest:List Oper}{o:Oper}{a:Act}{Q:Exit->Act->World->Prop}{w0 W:World}(hgd:o.guard=none)(s x:Operand)(t:TypeId)
  (ho:o.op=.call { callee:=.builtin .append,args:=#[s,x],argTypes:=#[t,t] })
  (B:Nat) (e:TypeId) (z:Value) (size bytes:Nat) (ht:P.underlying t=some (.slice e)) (hrow:(P.info? e).map (λi=>(i.zero,i.size,i.bytes))=some (some z,size,bytes)) (hzs:z.cells.size=size) (hsz:0<size)
  (v:Value) (n:Nat) (xs:List Value) (hs:a.eval s=v) (hown:W.ownsRow B e size v n xs)
  (us:List Value) (g c:Nat) (hx:a.eval x=.slice (some ⟨g,0,none⟩) 1 c) (hg:W.heap[g]? =some (.cells us.toArray e (0,0))) (hl:us.length=size) (h1:∀u∈us,u.oneCell'=true)
  (hn:n<1000000) (hby:bytes<=1024) (hbel:Below B w0 W) (hB:B<=W.heap.size)
  (h:∀v' w',w'.ownsRow B e size v' (n+1) (xs++us)->Below B w0 w'->wpList P ops Q rest (a.put o.dst v') w'):wpList P ops Q (o::rest) a W:=by
 obtain⟨i0,hi,hz0,hz1,hz2⟩:=ahS hrow
 have hmul:(n+1)*bytes<=1000000*1024:=agD (by omega) hby
 refine ai5 _ hgd s x t ho B e i0 z size bytes ht hi hz0 hz1 hz2 hzs hsz v n xs hs hown ⟨g,0,none⟩ 1 c us hx (by omega) (λj u hu=>?_) h1 (by simp only[maxLen];omega) (by omega) hB ?_
 ·rw[addr_add,afK,ahF W g j us.toArray e (0,0) hg]
  simpa using hu
 ·intro v' w' hown' hg' _
  exact h v' w' hown' (hbel.grown hg' hB (λk hk=>(hown.lt k hk).1))
theorem aZ.blks {w:World}{v:Value}{D:FnD}(h:aZ w v D):∃A c,D.bv=.slice A D.bs.length c/\(D.bs.length:Int)<=9223372036854775807/\dR w A 14 (D.bs.map bU.cells):=by
 obtain⟨A,c,e,hm,r⟩:=bT.rows h.blocks (by decide)
 rw[af4]at e hm
 exact⟨A,c,e,hm,r⟩
theorem jV.KD {w:World}{b:bU}(h:jV w b):∃A c,b.s=.slice A b.st.length c/\(b.st.length:Int)<=9223372036854775807/\dR w A 26 b.st:=bT.rows h.sts (by decide)
def ptV (p:Nat×Nat):List Value:=[.int .i64 p.1,.int .i64 p.2]
theorem nZ {w:World}{b:bU}(h:jV w b):b.cells.length=14:=by
 have l1:=h.rJ.len
 have l2:=h.mZ.len
 have e1:qM.length=9:=rfl
 have e2:kW.length=3:=rfl
 show(b.s::(b.pre++b.a::b.post)).length=14
 simp
 omega
theorem aam {k:Kd}{v:Value}(h:k.ok v):v.oneCell'=true:=by
 cases k with
 |i x=>obtain⟨n,rfl,_⟩:=h;rfl
 |b=>obtain⟨b,rfl⟩:=h;rfl
 |s=>obtain⟨s,rfl,_⟩:=h;rfl
theorem xM:∀{ks:List Kd} {us:List Value},au Kd.ok ks us->∀u∈us,u.oneCell'=true
 |[],[],_,_,hu=>by cases hu
 |k::ks,v::us,h,u,hu=>by
  rcases aeQ.1 hu with rfl|hu
  ·exact aam h.1
  ·exact xM h.2 u hu
 |[],_::_,h,_,_=>h.elim
 |_::_,[],h,_,_=>h.elim
theorem xH {w:World}{b:bU}(h:jV w b):∀u∈b.cells,u.oneCell'=true:=λu hu=>by
 obtain⟨A,c,e,_⟩:=jV.KD h
 obtain⟨A2,c2,e2,_⟩:=bT.rows h.opl (by decide)
 rcases aeQ.1 hu with rfl|hu
 ·rw[e];rfl
 ·rcases afl.1 hu with hu|hu
  ·exact xM h.rJ u hu
  ·rcases aeQ.1 hu with rfl|hu
   ·rw[e2];rfl
   ·exact xM h.mZ u hu
theorem BH (w:World)(old new:Array Value)(t:TypeId):(w.alloc (.cells old t)).setRow w.heap.size new=w.alloc (.cells new t):=by
 have h:(w.heap.push (Obj.cells old t)).modify w.heap.size (λx=>match x with | .cells c elem frozen=>.cells new elem frozen|o=>o)=w.heap.push (Obj.cells new t):=by
  apply Array.ext
  ·simp
  ·intro i h1 h2
   rw[Array.getElem_modify]
   by_cases hi:w.heap.size=i
   ·subst hi
    simp
   ·rw[afc hi]
    have:i<w.heap.size:=by simp at h2;omega
    rw[aib this,aib this]
 exact congrArg (λx=>({ heap:=x,tape:=w.tape,drawn:=w.drawn,os:=w.os,output:=w.output }:World)) h
theorem V8 {w:World}{x:Obj}{b o:Nat}{cs:List Value}(h:w.rangeAt b o cs):(w.alloc x).rangeAt b o cs:=λj v hj=>Ed (h j v hj)
theorem rP {P:Program}{ops:Array Oper}{rest:List Oper}{o:Oper}{a:Act}{Q:Exit->Act->World->Prop}(hgd:o.guard=none)(ty:TypeId)(x y:Operand)(ho:o.op=.store ty x y)(hd:o.dst=none)
  (W:World) (H:Nat) (hH:W.heap.size=H) (cells:Array Value) (hx:a.eval x=.pointer (some ⟨H,0,none⟩)) (hy:a.eval y=.agg cells)
  (t:TypeId) (old:Array Value) (hi:(P.info? ty).map (·.size)=some cells.size) (hold:old.size=cells.size) (h1:cells.all (·.oneCell')=true)
  (h:wpList P ops Q rest a (W.alloc (.cells cells t))):wpList P ops Q (o::rest) a (W.alloc (.cells old t)):=by
 subst hH
 refine ahU hgd ty x y ho W.heap.size cells hx hy t old (ay rfl) hi hold h1 ?_
 rw[BH,hd]
 exact h
theorem kK {P:Program}{W:World}{H:Nat}{cells:List Value}{old:Array Value}{t:TypeId}(hH:W.heap.size=H)(hold:old.size=cells.length)(h1:∀u,u∈cells->u.oneCell'=true):
  (storeCells ⟨H,0,none⟩ cells).run P (W.alloc (.cells old t))=.ok () (W.alloc (.cells cells.toArray t)):=by
 subst hH
 have:=run_storeCells_from (P:=P) W.heap.size t cells 0 old (W.alloc (.cells old t)) (ay rfl) (by omega) h1
 simp only[List.take_zero,agx]at this
 rw[this,BH]
theorem wC {w w':World}{base:Nat}{e:TypeId}{size:Nat}{v:Value}{n:Nat}{xs:List Value}(h:w.ownsRow base e size v n xs)(hb:Below w.heap.size w w'):w'.ownsRow base e size v n xs:=uX h λk hk=>hb.block k (CU h k hk).2
end loan
namespace Am
open Go.RowKit Go.ChangeShapes Go.WideShapes Go.Deep loan
def FnD.cells (D:FnD):List Value:=[.int .i64 D.p,.bool D.u,D.lv,D.bv]
structure dS (w:World)(v fv:Value)(Ds:List FnD):Prop where
 eq:v=.agg #[fv]
 fns:bT w fv 4 (Ds.map FnD.cells)
 fn:∀D∈Ds,aZ w (.agg #[.int .i64 D.p,.bool D.u,D.lv,D.bv]) D
theorem dS.frz {w w':World}{v fv:Value}{Ds:List FnD}(h:dS w v fv Ds)(hw:∀k,k<w.heap.size->w'.heap[k]? =w.heap[k]?):dS w' v fv Ds:=
 ⟨h.eq,h.fns.frz hw,λD hD=>(h.fn D hD).frz hw⟩
theorem dS.below {w w':World}{v fv:Value}{Ds:List FnD}(h:dS w v fv Ds)(hb:Below w.heap.size w w'):dS w' v fv Ds:=h.frz hb.block
theorem dS.rows {w:World}{v fv:Value}{Ds:List FnD}(h:dS w v fv Ds):∃A c,v=.agg #[.slice A Ds.length c]/\fv=.slice A Ds.length c/\(Ds.length:Int)<=9223372036854775807/\dR w A 4 (Ds.map FnD.cells):=by
 obtain⟨A,c,e,hm,hr⟩:=bT.rows h.fns (by decide)
 rw[af4]at e hm
 exact⟨A,c,by rw[h.eq,e],e,hm,hr⟩
theorem a0O {w:World}:∀{ls:List (List Value)},(∀cs∈ls,∃D,cs=FnD.cells D/\aZ w (.agg #[.int .i64 D.p,.bool D.u,D.lv,D.bv]) D)->∃Ds:List FnD,ls=Ds.map FnD.cells/\∀D∈Ds,aZ w (.agg #[.int .i64 D.p,.bool D.u,D.lv,D.bv]) D
 |[],_=>⟨[],rfl,λ_ h=>by cases h⟩
 |cs::ls,h=>by
  obtain⟨D,e,hD⟩:=h cs afh
  obtain⟨Ds,e2,h2⟩:=a0O (ls:=ls) λx hx=>h x (afd _ hx)
  refine⟨D::Ds,by rw[e,e2,afr],λx hx=>?_⟩
  rcases aeQ.1 hx with rfl|hx
  ·exact hD
  ·exact h2 x hx
theorem YP {H:Type}{enc:TypeId×Value->H}{w:World}{b0:Nat}{spare:Nat->Bool}{held:Bool}{v:Value}{fuel:Nat}{x:DataW H×List MemPlace}(hv:Value.okWide Tryz.prog w .any b0 24 v)
  (h:DataW.trod enc Tryz.prog w 0 spare held fuel 24 v.cells.toList=some x):∃fv Ds,dS w v fv Ds:=by
 obtain⟨fs,hu⟩:∃fs,Tryz.prog.underlying 24=some (.struct fs):=⟨_,Tryz.underlying24⟩
 simp only[Value.okWide,hu]at hv
 obtain⟨cs,rfl,hsz,_⟩:=hv
 have hsz:cs.size=1:=hsz.trans (by kernel_rfl)
 have h:DataW.trod enc Tryz.prog w 0 spare held fuel 24 cs.toList=some x:=h
 have hc:=o7 h (uM (ks:=[.inr 22]) (by kernel_rfl:zu Tryz.prog 6 24 [.inr 22]=true)) (by simpa using hsz)
 obtain⟨fv,t,e,⟨m,y,hs⟩,ht⟩:=aN hc
 have et:=jY ht
 obtain⟨els,hL,n,hel⟩:=uZ (sz:=4) Tryz.underlying22 (by kernel_rfl) (by decide) hs
 obtain⟨Ds,hDs,hfn⟩:=a0O (w:=w) (ls:=els) λc hcm=>by
  obtain⟨z,hz⟩:=hel c hcm
  obtain⟨i,hi⟩:=afD hcm
  have hl4:=hL.len i c hi
  obtain⟨p,u,lv,bv,ls,bs,hf⟩:=a0h (kS:=zk) (tLs:=37) (tT:=88) (tBs:=38) (tB:=99) (tSs:=97) (tS:=63) (tOs:=77) (tO:=59) hz hl4 (by kernel_rfl)
   Tryz.underlying37 (by kernel_rfl) (by kernel_rfl) Tryz.underlying38 (by kernel_rfl) (by kernel_rfl) Tryz.underlying97 (by kernel_rfl) (by decide) (by kernel_rfl) Tryz.underlying77 (by kernel_rfl) (by kernel_rfl)
  obtain⟨D,hD⟩:=aZ.of hf
  have q:=hD.eq
  refine⟨D,?_,by rw[<-q];exact hD⟩
  injection q with q
  exact congrArg Array.toList q
 subst hDs
 refine⟨fv,Ds,?_,hL,hfn⟩
 subst et
 have:cs=#[fv]:=by
  have:=congrArg List.toArray e
  simpa using this
 rw[this]
end Am
open Go.RowKit Go.Maps
def unS (s:Nat->Bool):Nat:=((aic 8).filter λc=>!s c).length
def a1z (s:Nat->Bool)(c:Nat):Nat->Bool:=λj=>if j=c then true else s j
theorem XG {s:Nat->Bool}{c:Nat}(hc:c<8)(hs:s c=false):unS (a1z s c)+1=unS s:=by
 have h8:c=0\/c=1\/c=2\/c=3\/c=4\/c=5\/c=6\/c=7:=by omega
 have e:∀t:Nat->Bool,unS t=(if t 0 then 0 else 1)+(if t 1 then 0 else 1)+(if t 2 then 0 else 1)+(if t 3 then 0 else 1)+(if t 4 then 0 else 1)+(if t 5 then 0 else 1)+(if t 6 then 0 else 1)+(if t 7 then 0 else 1):=λt=>by
  unfold unS
  simp only[aic,aic.loop,List.filter]
  cases t 0<;>cases t 1<;>cases t 2<;>cases t 3<;>cases t 4<;>cases t 5<;>cases t 6<;>cases t 7<;>rfl
 rw[e,e]
 unfold a1z
 rcases h8 with rfl|rfl|rfl|rfl|rfl|rfl|rfl|rfl<;>simp[hs]<;>omega
section
variable {P:Program} {tm tk te:TypeId}
structure zi (P:Program)(tk te:TypeId)(w:World)(M:Nat)(s:Nat->Bool):Prop where
 ex:∃n,∃D:DataW Unit,n+unS s<=8/\w.ownsMap P tk (plainElem P te) M n D/\∀c,c<8->D.atKey (.int .i64 (c:Nat)) (.lit (.bool false))=.lit (.bool (s c))
variable {w w':World} {M:Nat} {s:Nat->Bool}
theorem small_wf {c:Nat}(hc:c<8):(Lit.int .i64 (c:Nat)).wf=true:=by
 have h8:c=0\/c=1\/c=2\/c=3\/c=4\/c=5\/c=6\/c=7:=by omega
 rcases h8 with rfl|rfl|rfl|rfl|rfl|rfl|rfl|rfl<;>rfl
theorem zi.made:zi P tk te (w.alloc (.map #[] 0)) w.heap.size λ_=>false:=
 ⟨0,.map [],by decide,World.ownsMap_made _ _ _ _,λc hc=>rfl⟩
theorem zi.kept {row:Option Nat}(h:zi P tk te w M s)(hg:w.grownBy w' row)(hne:some M≠row):zi P tk te w' M s:=by
 obtain⟨n,D,h1,h2,h3⟩:=h.ex
 exact⟨n,D,h1,h2.kept hg hne,h3⟩
theorem zi.keep (h:zi P tk te w M s)(hk:w'.heap[M]? =w.heap[M]?):zi P tk te w' M s:=by
 obtain⟨n,D,h1,⟨es,c,hb,r⟩,h3⟩:=h.ex
 exact⟨n,D,h1,⟨es,c,hk.trans hb,r⟩,h3⟩
theorem zi.lt (h:zi P tk te w M s):M<w.heap.size:=by
 obtain⟨n,D,h1,h2,h3⟩:=h.ex
 exact h2.lt
theorem zi.look (h:zi P tk te w M s)(K:Keyed P tk)(hk:P.underlying tk=some (.int .i64))(he:P.underlying te=some .bool)(ht:P.underlying tm=some (.map tk te))(hz:(zeroValue te).run P w=.ok (.bool false) w){c:Nat}(hc:c<8):
  (Instr.lookup tm (.map (some M)) (.int .i64 (c:Nat)) false).run P w=.ok (.bool (s c)) w:=by
 obtain⟨n,D,h1,h2,h3⟩:=h.ex
 obtain⟨v,ps,hrun,hv⟩:=h2.lookup K ht hz (plainElem_bool he false) (keyOf_int_mk hk (small_wf hc))
 rw[h3 c hc]at hv
 have:v=.bool (s c):=by
  unfold plainElem at hv
  rw[he]at hv
  split at hv<;>first |(cases hv;rfl)|(rename_i e;cases e)|(cases hv)
 rw[<-this]
 exact hrun
theorem Qc {ops:Array Oper}{rest:List Oper}{o:Oper}{a:Act}{Q:Exit->Act->World->Prop}(hg:o.guard=none)(m x v:Operand)(hop:o.op=Op.mapUpdate tm m x v)
  (K:Keyed P tk) (hk:P.underlying tk=some (.int .i64)) (he:P.underlying te=some .bool) (ht:P.underlying tm=some (.map tk te)) (hm:a.eval m=.map (some M)) (h:zi P tk te w M s) {c:Nat} (hc:c<8) (hs:s c=false) (hx:a.eval x=.int .i64 (c:Nat)) (hv:a.eval v=.bool true)
  (hK:∀w',zi P tk te w' M (a1z s c)->w.grownBy w' (some M)->wpList P ops Q rest (a.put o.dst undef) w'):wpList P ops Q (o::rest) a w:=by
 obtain⟨n,D,h1,h2,h3⟩:=h.ex
 have hu:=XG hc hs
 refine wpList_mapUpdate_own w hg m x v tm hop tk te K ht (plainElem P te) M n D hm h2 (by simp[maxLen];omega) _ _ _ hx hv (keyOf_int_mk hk (small_wf hc)) _ [] (plainElem_bool he true) λw' o1 g1=>hK w' ⟨n+1,_,by omega,o1,λj hj=>?_⟩ g1
 unfold a1z
 by_cases hjc:j=c
 ·subst hjc
  rw[afm rfl]
  exact atKey_put_same h2.isMap (show WideAt.IsKeyLit (.int .i64 _)from trivial) _ _
 ·rw[afc hjc,atKey_put_other (λe=>by injection e with _ e;omega)]
  exact h3 j hj
end
open Am loan
structure Ea (Av:Nat->Prop)(w w':World):Prop where
 os:w'.os=w.os
 tape:w'.tape=w.tape
 output:w'.output=w.output
 size:w.heap.size<=w'.heap.size
 block:∀k,Av k->k<w.heap.size->w'.heap[k]? =w.heap[k]?
theorem Ea.below {lo:Nat}{w w':World}{Av:Nat->Prop}(h:Ea Av w w')(hl:lo<=w.heap.size)(hA:∀k,k<lo->Av k):Below lo w w':=⟨h.os,h.tape,h.output,h.size,λk hk=>h.block k (hA k hk) (afe hk hl)⟩
structure Que (w:World)(Av:Nat->Prop)(v:Value)(xs:List Int):Prop where
 ex:∃g o c,v=.slice (some ⟨g,o,none⟩) xs.length c/\(0<c->¬Av g)/\xs.length<=c/\c<=maxLen/\(∀j x,xs[j]? =some x->w.cell? ⟨g,o+j,none⟩=some (.int .i64 x))/\∀j,j<c->(w.cell? ⟨g,o+j,none⟩).isSome=true/\w.frozen? ⟨g,o+j,none⟩=false
section
variable {w w':World} {Av:Nat->Prop} {v:Value} {xs:List Int}
theorem Que.keep (h:Que w Av v xs)(hk:∀k,¬Av k->k<w.heap.size->w'.heap[k]? =w.heap[k]?):Que w' Av v xs:=by
 obtain⟨g,o,c,rfl,hg,hc,hm,ha,hb⟩:=h.ex
 have key:∀j,j<c->w'.heap[g]? =w.heap[g]? :=λj hj=>hk g (hg (by omega)) (ahK w ⟨g,o+j,none⟩ (aia.1 (hb j hj).1).choose_spec)
 exact⟨g,o,c,rfl,hg,hc,hm,λj x hx=>(ahI (a:=⟨g,o+j,none⟩) (key j (by have:=(aeU.1 hx).1;omega))).trans (ha j x hx),λj hj=>⟨by rw[ahI (a:=⟨g,o+j,none⟩) (key j hj)];exact(hb j hj).1,(World.frozen?_of_block (a:=⟨g,o+j,none⟩) (key j hj)).trans (hb j hj).2⟩⟩
theorem Que.below (h:Que w Av v xs)(hb:Below w.heap.size w w'):Que w' Av v xs:=h.keep λk _ hk=>hb.block k hk
theorem Que.avoid {Av':Nat->Prop}(h:Que w Av v xs)(hA:∀k,k<w.heap.size->Av' k->Av k):Que w Av' v xs:=by
 obtain⟨g,o,c,rfl,hg,hc,hm,ha,hb⟩:=h.ex
 exact⟨g,o,c,rfl,λh0 h1=>hg h0 (hA g (ahK w ⟨g,o+0,none⟩ (aia.1 (hb 0 h0).1).choose_spec) h1),hc,hm,ha,hb⟩
theorem Que.one {g:Nat}{x:Int}{t:TypeId}(h:w.heap[g]? =some (.cells #[.int .i64 x] t (0,0)))(hg:¬Av g):Que w Av (.slice (some ⟨g,0,none⟩) 1 1) [x]:=
 have hc:w.cell? ⟨g,0,none⟩=some (.int .i64 x):=by rw[ahF w g 0 _ t (0,0) h];rfl
 ⟨g,0,1,rfl,λ_=>hg,aeM _,by simp[maxLen],λj y hy=>by
  cases j with
  |zero=>rw[show y=x by simpa[eq_comm]using hy];exact hc
  |succ j=>simp at hy,λj hj=>by
  obtain rfl:j=0:=by omega
  exact⟨by rw[afS,hc];rfl,frozen_of_row w g _ _ t h⟩⟩
theorem Que.pop {x:Int}{r:List Int}(h:Que w Av v (x::r)):∃g o c,v=.slice (some ⟨g,o,none⟩) (r.length+1) c/\r.length+1<=c/\w.cell? ⟨g,o,none⟩=some (.int .i64 x)/\Que w Av (.slice (some ⟨g,if c=1 then o else o+1,none⟩) r.length (c-1)) r:=by
 obtain⟨g,o,c,rfl,hg,hc,hm,ha,hb⟩:=h.ex
 have hc:r.length+1<=c:=hc
 refine⟨g,o,c,rfl,hc,ha 0 x rfl,⟨g,_,c-1,rfl,λh0=>hg (by omega),by omega,by omega,λj y hy=>?_,λj hj=>?_⟩⟩
 ·have:=(aeU.1 hy).1
  rw[afc (by omega),afZ,ags 1 j]
  exact ha (j+1) y hy
 ·rw[afc (by omega),afZ,ags 1 j]
  exact hb (j+1) (by omega)
theorem Que.last {x:Int}{r:List Int}(h:Que w Av v (r++[x])):∃g o c,v=.slice (some ⟨g,o,none⟩) (r.length+1) c/\r.length+1<=c/\w.cell? ⟨g,o+r.length,none⟩=some (.int .i64 x)/\Que w Av (.slice (some ⟨g,o,none⟩) r.length c) r:=by
 obtain⟨g,o,c,e,hg,hc,hm,ha,hb⟩:=h.ex
 rw[aeL]at e hc
 refine⟨g,o,c,e,hc,ha r.length x (by simp),⟨g,o,c,rfl,hg,by omega,hm,λj y hy=>ha j y ?_,hb⟩⟩
 rw[af5 (aeU.1 hy).1];exact hy
theorem Que.push {P:Program}(h:Que w Av v xs)(t ty e:TypeId)(ht:P.underlying t=some (.slice e))(hrow:(P.info? e).map (λi=>(i.zero,i.size,i.bytes))=some (some (.int .i64 0),1,8)){x:Int}{g0:Nat}{T:TypeId}(hg0:w.heap[g0]? =some (.cells #[.int .i64 x] T (0,0)))(hn:xs.length<1000000)(hA:∀k,Av k->k<w.heap.size):
  ∃v' w',(Builtin.append_ #[t,t] ty #[v,.slice (some ⟨g0,0,none⟩) 1 1]).run P w=.ok v' w'/\Que w' Av v' (xs++[x])/\Ea Av w w':=by
 obtain⟨g,o,c,rfl,hg,hc,hm,ha,hb⟩:=h.ex
 obtain⟨i0,hi,hz0,hz1,hz2⟩:=ahS hrow
 have hnews:∀j u,[Value.int .i64 x][j]? =some u->w.cell? ((⟨g0,0,none⟩:Addr).add j)=some u:=λj u hu=>by
  rw[addr_add,afK,ahF w g0 j _ T (0,0) hg0]
  simpa using hu
 by_cases hroom:xs.length+1<=c
 ·have hsome:∀j,j<[Value.int .i64 x].length->(w.cell? ⟨g,o+xs.length*i0.size+j,none⟩).isSome=true:=λj hj=>by
   rw[hz1,agm,afZ];exact(hb _ (by simp at hj;omega)).1
  have hr:=run_append_room_cells (P:=P) w t ty e i0 ht hi g o xs.length c ⟨g0,0,none⟩ 1 1 [.int .i64 x] (by rw[hz1];rfl) hnews (by simp[Value.oneCell']) hroom hsome (λj hj=>by
   rw[hz1,agm,afZ];exact(hb _ (by simp at hj;omega)).2)
  refine⟨_,_,hr,⟨g,o,c,by rw[aeL];rfl,hg,by rw[aeL];exact hroom,hm,λj y hy=>?_,λj hj=>⟨?_,(World.frozen?_setCells g _ _ _ _).trans (hb j hj).2⟩⟩,?_⟩
  ·rw[hz1,agm]
   rcases afp j xs.length with hlt|hge
   ·rw[World.cell?_setCells_out g _ _ _ _ (λ_ _=>Or.inl (by show o+j<o+xs.length;omega))]
    rw[af5 hlt]at hy
    exact ha j y hy
   ·rw[af7 hge]at hy
    have hj:j=xs.length:=by have:=(aeU.1 hy).1;simp at this;omega
    subst hj
    have:=World.cell?_setCells_in g [Value.int .i64 x] (o+xs.length) w (by rw[hz1,agm]at hsome;exact hsome) 0 (by simp)
    rw[afS]at this
    rw[this]
    simp at hy
    simp[hy]
  ·rw[hz1,agm]
   by_cases hj2:j=xs.length
   ·subst hj2
    have:=World.cell?_setCells_in g [Value.int .i64 x] (o+xs.length) w (by rw[hz1,agm]at hsome;exact hsome) 0 (by simp)
    rw[afS]at this
    rw[this];rfl
   ·rw[World.cell?_setCells_out g _ _ _ _ (λ_ _=>by show o+j<o+xs.length\/o+xs.length+1<=o+j;omega)]
    exact(hb j hj).1
  ·rw[hz1,agm]
   have hb1:Below 0 w (w.setCell ⟨g,o+xs.length,none⟩ (.int .i64 x)):=(ahE 0 w).setCell (afb _) (.int .i64 x)
   exact⟨hb1.os,hb1.tape,hb1.output,hb1.size,λk hk _=>ai3 w _ _ k λe=>hg (by omega) (by have e:k=g:=e;rwa[<-e])⟩
 ·obtain⟨v',w1,hr,hown,hgr⟩:=run_append_arg_grows (P:=P) w t ty e i0 (.int .i64 0) 1 8 ht hi hz0 hz1 hz2 rfl (by decide) ⟨g,o,none⟩ xs.length c (xs.map (Value.int .i64)) (by simp) (λj u hu=>by
   rw[aeT]at hu
   obtain⟨y,hy,rfl⟩:=afV.1 hu
   rw[addr_add]
   exact ha j y hy) ⟨g0,0,none⟩ 1 1 [.int .i64 x] rfl hnews (by omega) (by simp[maxLen];omega) (by omega)
  refine⟨_,_,hr,?_,⟨hgr.os,hgr.tape,hgr.output,hgr.size,λk _ hk=>hgr.block k hk (λe=>by cases e)⟩⟩
  rcases hown.2 with⟨rfl,h0⟩|⟨g',cap,cur,rfl,hbg,hgc,hnc,hcm,hcs,htake⟩
  ·omega
  ·refine⟨g',0,cap,by rw[aeL];rfl,λ_ h1=>by have:=hA _ h1;omega,by rw[aeL];exact hnc,hcm,λj y hy=>?_,λj hj=>⟨?_,frozen_of_row w1 g' _ _ e hgc⟩⟩
   ·have hx:(xs.map (Value.int .i64)++[Value.int .i64 x])[j]? =some (.int .i64 y):=by
     rw[show xs.map (Value.int .i64)++[Value.int .i64 x]=(xs++[x]).map (Value.int .i64)by simp,aeT,hy];rfl
    rw[afK,ahF w1 g' j cur e (0,0) hgc]
    rw[<-htake,afQ]at hx
    split at hx
    ·simpa using hx
    ·cases hx
   ·rw[afK,ahF w1 g' j cur e (0,0) hgc,afU (by omega)]
    rfl
theorem Jw {P:Program}{ops:Array Oper}{rest:List Oper}{o:Oper}{a:Act}{Q:Exit->Act->World->Prop}{W:World}(hgd:o.guard=none)(s x:Operand)(t:TypeId)(ho:o.op=.call { callee:=.builtin .append,args:=#[s,x],argTypes:=#[t,t] })
  (e:TypeId) (ht:P.underlying t=some (.slice e)) (hrow:(P.info? e).map (λi=>(i.zero,i.size,i.bytes))=some (some (.int .i64 0),1,8)) (hs:a.eval s=v) (hq:Que W Av v xs) (n:Int) (g0:Nat) (hx:a.eval x=.slice (some ⟨g0,0,none⟩) 1 1) (T:TypeId) (hg:W.heap[g0]? =some (.cells #[.int .i64 n] T (0,0)))
  (hn:xs.length<1000000) (hA:∀k,Av k->k<W.heap.size) (h:∀v' w',Que w' Av v' (xs++[n])->Ea Av W w'->wpList P ops Q rest (a.put o.dst v') w'):wpList P ops Q (o::rest) a W:=by
 refine wpList_plain hgd λK hK=>?_
 obtain⟨v',w',hr,h2,h3⟩:=hq.push (P:=P) t o.type e ht hrow hg hn hA
 unfold Oper.wp execOp
 simp only[ho,resolve,invoke,builtin,ahJ,ahL,ahH,List.map_toArray,afr,agj,hs,hx,hr]
 exact hK _ _ (h v' w' h2 h3)
end
namespace prg
def aaK (ts:List Int)(w:World)(e:Ending)(w':World):Prop:=∃A c,e=.returned (.tuple #[.slice A ts.length c,.int .i64 0])/\dR w' A 1 (ts.map λt=>[.int .i64 t])/\(∀g o s,A=some ⟨g,o,s⟩->w.heap.size<=g)/\Below w.heap.size w w'
theorem IY {w:World}{g:Nat}{t:TypeId}{ts:List Int}(h:w.heap[g]? =some (.cells (ts.map (Value.int .i64)).toArray t (0,0))):dR w (some ⟨g,0,none⟩) 1 (ts.map λt=>[.int .i64 t]):=λi el hi=>by
 rw[aeT]at hi
 obtain⟨y,hy,rfl⟩:=afV.1 hi
 refine⟨g,0,rfl,(aeN.1 h).1,λj u hj=>?_⟩
 cases j with
 |zero=>
  rw[show u=.int .i64 y by simpa[eq_comm]using hj,ahF w g _ _ t (0,0) h]
  simp[hy]
 |succ j=>simp at hj
theorem Xn {w:World}:dR w none 1 (([]:List Int).map λt=>[.int .i64 t]):=λi el hi=>by simp at hi
theorem Bg {w:World}{A:Option Addr}{sz:Nat}{els:List (List Value)}(h:dR w A sz els)(h0:0<els.length):∃g o,A=some ⟨g,o,none⟩/\g<w.heap.size/\∀i el,els[i]? =some el->w.rangeAt g (o+i*sz) el:=by
 obtain⟨x,hx⟩:∃x,els[0]? =some x:=⟨_,aeK h0⟩
 obtain⟨g,o,rfl,hg,_⟩:=h 0 x hx
 refine⟨g,o,rfl,hg,λi el hi=>?_⟩
 obtain⟨g',o',e,_,hr⟩:=h i el hi
 cases e
 exact hr
theorem vF {w w':World}{g o:Nat}{cs:List Value}(h:w.rangeAt g o cs)(hg:g<w.heap.size)(hb:Below w.heap.size w w'):w'.rangeAt g o cs:=λj u hj=>(hb.cell (p:=⟨g,o+j,none⟩) hg).trans (h j u hj)
theorem yP {W w':World}{A:Option Addr}{sz:Nat}{els:List (List Value)}(h:dR W A sz els)(hk:∀g o s,A=some ⟨g,o,s⟩->g<W.heap.size->w'.heap[g]? =W.heap[g]?)(hs:W.heap.size<=w'.heap.size):dR w' A sz els:=λi el hi=>by
 obtain⟨g,o,e,hg,hr⟩:=h i el hi
 exact⟨g,o,e,afe hg hs,λj u hj=>(ahI (a:=⟨g,o+i*sz+j,none⟩) (hk g o none e hg)).trans (hr j u hj)⟩
