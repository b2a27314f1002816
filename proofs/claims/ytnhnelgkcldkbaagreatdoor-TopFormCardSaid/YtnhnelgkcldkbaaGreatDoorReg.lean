/- Small words for memory that the other texts use (no program in sight). -/
import Derived.WalkSpells
import Derived.WalkLawsBesides
import Derived.Lib.Hide
import Derived.OpenShut
import Derived.Test.YtnhnelgkcldkbaaGreatDoorProg
import Derived.Test.YtnhnelgkcldkbaaGreatDoorAmC
set_option linter.all false
set_option maxHeartbeats 400000
set_option maxRecDepth 4000
namespace Go.Proofs.YtnhnelgkcldkbaaGreatDoor
open Go.RowKit
theorem a6C {k:IntKind}{a b:Int}(h:a=b):Ending.returned (.int k a)=.returned (.int k b):=by rw[h]
def Row (w:World)(B:Nat)(k:IntKind)(A:Option Addr)(xs:List Int):Prop:=
 0<xs.length->∃b off,A=some ⟨b,off,none⟩/\b<B/\∀j,j<xs.length->w.cell? ⟨b,off+j,none⟩=some (.int k (xs.getD j 0))
theorem Row.keep {w w':World}{B:Nat}{k:IntKind}{A:Option Addr}{xs:List Int}(h:Row w B k A xs)(hk:∀p:Addr,p.block<B->w'.cell? p=w.cell? p):Row w' B k A xs:=λhn=>by
 obtain⟨b,off,e,hb,hc⟩:=h hn
 exact⟨b,off,e,hb,λj hj=>(hk ⟨b,off+j,none⟩ hb).trans (hc j hj)⟩
theorem Row.below {w w':World}{B B':Nat}{k:IntKind}{A:Option Addr}{xs:List Int}(h:Row w B k A xs)(hb:Below B' w w')(hB:B<=B'):Row w' B k A xs:=h.keep λp hp=>hb.cell (by omega)
theorem Row.Em {w:World}{base:Nat}{e:TypeId}{k:IntKind}{v:Value}{n:Nat}{xs:List Int}(h:w.ownsRow base e 1 v n (xs.map (Value.int k))):
  ∃A cap,v=.slice A xs.length cap/\xs.length<=cap/\cap<=maxLen/\Row w w.heap.size k A xs/\n=xs.length:=by
 obtain⟨h1,h2⟩:=h
 have hn:xs.length=n:=by simpa using h1
 rcases h2 with⟨rfl,h0⟩|⟨g,cap,cur,rfl,_,hg,hc,hm,hs,ht⟩
 ·exact⟨none,0,by rw[hn,h0],by omega,by simp[maxLen],λhp=>by omega,hn.symm⟩
 ·refine⟨_,cap,by rw[hn],by omega,hm,λ_=>⟨g,0,rfl,(aeN.1 hg).1,λj hj=>?_⟩,hn.symm⟩
  rw[afK,ahF w g j cur e (0,0) hg]
  have hj':(xs.map (Value.int k))[j]? =some (.int k (xs.getD j 0)):=by
   simp[List.getD,aeK hj]
  rw[<-ht,afQ]at hj'
  split at hj'
  ·simpa using hj'
  ·cases hj'
theorem rZ {P:Program}{ops:Array Oper}{rest:List Oper}{o:Oper}{a:Act}{Q:Exit->Act->World->Prop}{w0 w:World}(hgd:o.guard=none)(s x:Operand)(t:TypeId)
  (ho:o.op=.call { callee:=.builtin .append,args:=#[s,x],argTypes:=#[t,t] })
  (B:Nat) (e:TypeId) (z:Value) (bytes:Nat) (ht:P.underlying t=some (.slice e)) (hrow:(P.info? e).map (λi=>(i.zero,i.size,i.bytes))=some (some z,1,bytes)) (hzs:z.cells.size=1)
  (v:Value) (n:Nat) (xs:List Value) (hs:a.eval s=v) (hown:w.ownsRow B e 1 v n xs)
  (u:Value) (hx:a.eval x=.slice (some ⟨w.heap.size,0,none⟩) 1 1) (h1:u.oneCell'=true)
  (hn:n<2147483648) (hby:bytes<=1024) (hbel:Below B w0 w) (hB:B<=w.heap.size)
  (h:∀v' w',w'.ownsRow B e 1 v' (n+1) (xs++[u])->Below B w0 w'->wpList P ops Q rest (a.put o.dst v') w'):wpList P ops Q (o::rest) a (w.alloc (.cells #[u] e)):=by
 obtain⟨i0,hi,hz0,hz1,hz2⟩:=ahS hrow
 have hmul:(n+1)*bytes<=2147483648*1024:=agD (by omega) hby
 refine ai5 _ hgd s x t ho B e i0 z 1 bytes ht hi hz0 hz1 hz2 hzs (by decide) v n xs hs (hown.alloc _) ⟨w.heap.size,0,none⟩ 1 1 [u] hx rfl (cell_one_new _ _ _) (by simpa using h1) (by simp only[maxLen];omega) (by omega) (by simp;omega) ?_
 intro v' w' hown' hg _
 refine h v' w' hown' ((hbel.alloc hB _).grown hg (by simp;omega) (λk hk=>(hown.lt k hk).1))
theorem Tt {P:Program}(t e:TypeId)(z:Value)(bytes:Nat)(ht:P.underlying t=some (.slice e))(hrow:(P.info? e).map (λi=>(i.zero,i.size,i.bytes))=some (some z,1,bytes))
  (hz1:z.cells=#[z]) (n c:Nat) (hn:n<=c) (hc:c<2147483648) (hby:bytes<=1024):
  ∃C:Array Value,C.size=c/\(∀j,j<c->C[j]? =some z)/\∀(kl kc:IntKind) (W:World),(Instr.makeSlice t (.int kl (n:Int)) (.int kc (c:Int))).run P W=.ok (.slice (some ⟨W.heap.size,0,none⟩) n c) (W.alloc (.cells C e)):=by
 obtain⟨i0,hi,hz0,hs,hb⟩:=ahS hrow
 refine⟨madeCells z.cells (c*i0.size),by simp[size_madeCells,hs],λj hj=>?_,λkl kc W=>?_⟩
 ·simp[madeCells,hz1,hs,hj,Nat.mod_one]
 ·have hmul:c*bytes<=2147483648*1024:=agD (by omega) hby
  have hm:(i0.bytes:Int)*(c:Int)<=281474976710656:=by
   have:((i0.bytes*c:Nat):Int)<=281474976710656:=by rw[hb,Nat.mul_comm];omega
   rwa[Int.natCast_mul]at this
  have hr:=run_make (P:=P) W t e i0 z ht hi hz0 kl kc n c (by omega) (by omega) hm (by omega)
  simpa using hr
open Am
theorem a0r:(Tryz.prog.info? 3).map (λi=>(i.zero,i.size,i.bytes))=some (some (.int .i64 0),1,8):=by kernel_rfl
theorem IB (bs:List Bool)(hb:bs.length=16)(w:World):
  Calls Tryz.prog 27 #[.agg (bs.map Value.bool).toArray] w λe w'=>
   ∃v,e=.returned v/\w'.ownsRow (w.heap.size+1) 3 1 v (incr 0 bs).length ((incr 0 bs).map (Value.int .i64))/\Below w.heap.size w w':=by
 obtain⟨i0,hi,hz0,hz1,hz2⟩:=ahS a0r
 go_enter Tryz.func27,Tryz.ntmps27
 go_wp2
 go_loopw [3,4] (λv m wr=>∃(i:Nat),m=.int .i64 i/\i<=16/\
   wr.ownsRow (w.heap.size+1) 3 1 v (incr 0 (bs.take i)).length ((incr 0 (bs.take i)).map (Value.int .i64))/\Below (w.heap.size+1) (w.alloc (.cells (bs.map Value.bool).toArray 69)) wr) (λ_ m _=>16-(intOf m).toNat)
 case atStart=>exact⟨0,rfl,by omega,ahT _ _ _ _,ahE _ _⟩
 case round=>
  obtain⟨i,rfl,hi16,hown,hbel⟩:=hrel
  have hsz:w.heap.size+1<=wr.heap.size:=by have:=hbel.size;simpa using this
  rcases afp i 16 with hlt|hge
  ·have hcell:wr.cell? ⟨w.heap.size,i,none⟩=some (.bool (bs[i]'(by omega))):=by
    have h1:=(hbel.block w.heap.size (by omega)).trans (ahY w _)
    rw[ahF wr w.heap.size i _ 69 (0,0) h1]
    simp[show i<bs.length by omega]
   have htake:bs.take (i+1)=bs.take i++[bs[i]'(by omega)]:=by rw[afN (by omega)]
   have hl:(bs.take i).length=i:=by rw[afu];omega
   have hle:=Qi (bs.take i) 0
   rw[hl]at hle
   generalize hbi:bs[i]'(by omega)=b at *
   have HT:=Lib.hid htake
   have HL:=Lib.hid hl
   have HE:=Lib.hid hle
   clear htake hl hbi hle
   cases b
   ·go_wp2
    go_roundw
    case rel=>
     refine⟨i+1,by simp,by omega,?_,hbel⟩
     rw[HT.out,J8]
     simpa using hown
    case measure=>simp[intOf];omega
   ·have hlen:(incr 0 (bs.take i)).length+1<=17:=by have:=HE.out;omega
    go_wp2_with (at_builtin;refine rZ rfl _ _ 31 rfl (w.heap.size+1) 3 (.int .i64 0) 8 Tryz.underlying31 a0r rfl _ _ _ rfl hown (.int .i64 i) rfl rfl (by omega) (by omega) hbel hsz ?_;intro v1 w1 hown1 hbel1)
    go_roundw
    case rel=>
     refine⟨i+1,by simp,by omega,?_,hbel1⟩
     rw[HT.out,J8,HL.out]
     simpa using hown1
    case measure=>simp[intOf];omega
  ·obtain rfl:i=16:=by omega
   have htake:bs.take 16=bs:=agQ (by omega)
   rw[htake]at hown
   have hbel':Below w.heap.size w wr:=⟨hbel.os,hbel.tape,hbel.output,by omega,λk hk=>(hbel.block k (by omega)).trans (ahX w _ hk)⟩
   go_wp2
   go_ret
   exact⟨_,rfl,hown,hbel'⟩
namespace Am
noncomputable def abj (K:Know):aU:=λf args h _=>bif f==27 then
 (match args with |[.g cells]=>ob (@a3D K 16 cells) λl=>some (.a (.s (.sl h.next 0 l.length 1 none)),h.alloc l)|_=>none)else none
theorem a09 (b:Base):@Sound b Tryz.prog (abj b.toKnow):=by
 intro f args h fl v h' e
 unfold abj at e
 cases hf:(f==27)<;>rw[hf]at e<;>simp only[aeW,aeS]at e
 ·cases e
 obtain rfl:f=27:=by simpa using hf
 split at e
 ·rename_i cells
  obtain⟨l,hl,e⟩:=aj e
  cases e
  refine⟨⟨_,Tryz.func27,by kernel_rfl,by kernel_rfl⟩,λr B w vs hi ha=>?_⟩
  match vs,ha with
  |[u],⟨⟨us,hu,hus⟩,_⟩=>
   subst hu
   obtain⟨bs,rfl,hb,hl'⟩:=a8a hl hus
   refine(IB bs hb w).mono λe w' ⟨v,e1,hown,hbel⟩=>⟨v,e1,?_⟩
   have hcs:=hl' r
   have hlen:=hcs.len
   rw[af4]at hlen
   obtain⟨h1,h2⟩:=hown
   rcases h2 with⟨rfl,h0⟩|⟨g,cap,cur,rfl,hg,hcur,hn,hmx,hsz,htk⟩
   ·have:=a3W hl
    omega
   ·have:=Post.row (fl:=fl) hi hbel (cs:=l) (us:=(incr 0 bs).map (Value.int .i64)) (z:=1) (n:=l.length) (by omega) hcur (by omega) (by omega) hmx hsz (by simpa using htk) hcs
    rw[hlen]at this |-
    exact this
 ·cases e
end Am
section
variable {P:Program} {ops:Array Oper} {Q:Exit->Act->World->Prop} {md:Region.Mode} {E:World->World->Prop}
def Au (P:Program)(md:Region.Mode)(ops:Array Oper)(Q:Exit->Act->World->Prop)(E:World->World->Prop):Nat->Array Bool->Act->World->Prop
 |0,listed,a,w=>Region.ready md ops listed=[]/\Q .normal a w
 |fuel+1,listed,a,w=>
  (Region.ready md ops listed=[]->Q .normal a w)/\
  ∀i∈Region.ready md ops listed,wpOp P ops Q i (λa' w'=>E w w'/\Au P md ops Q E fuel (listed.setIfInBounds i true) a' w') a w
theorem vV:∀(fuel:Nat) (listed:Array Bool) (a:Act) (w:World),Au P md ops Q E fuel listed a w->wpAny P md ops Q fuel listed a w
 |0,_,_,_,h=>h
 |fuel+1,_,_,_,h=>⟨h.1,λi hi=>wpOp_mono (λa' w' h'=>vV fuel _ a' w' h'.2) (h.2 i hi)⟩
theorem ND {o:Oper}{v:Value}{a:Act}{w w':World}(htr:∀a b c,E a b->E b c->E a c)(he:E w w')(h:YieldsIf P ops (E w) o v a):YieldsIf P ops (E w') o v a:=
 h.imp (λ⟨hw,hv⟩=>⟨hw,λW hW=>hv W (htr _ _ _ he hW)⟩) id
theorem wo (hrf:∀w,E w w)(htr:∀a b c,E a b->E b c->E a c){i:Nat}{oi:Oper}{v:Value}(hi:ops[i]? =some oi)(hsel:∀(j:Nat) (o:Oper) cs b,ops[j]? =some o->o.op≠.select cs b)
  (hQ:∀c a w,Q (.panic c) (a.put oi.dst v) w->Q (.panic c) a w):
  ∀(fuel:Nat) (listed:Array Bool) (a:Act) (w:World),
   (∀j oj,ops[j]? =some oj->j≠i->listed.getD j true=false->(∀e∈oj.after,Region.binds md e=true->e.on≠i)->oi.apart ops oj=true)->
   i∈Region.ready md ops listed->YieldsIf P ops (E w) oi v a->
   Au P md ops Q E fuel (listed.setIfInBounds i true) (a.put oi.dst v) w->Au P md ops Q E (fuel+1) listed a w:=by
 intro fuel
 induction fuel with
 |zero=>
  intro listed a w _ hr hy H
  refine⟨λh=>(by rw[h]at hr;cases hr),λj hj=>?_⟩
  by_cases hji:j=i
  ·subst hji;exact hy.wpOp hi (hrf w) ⟨hrf w,H⟩
  ·have:=ready_mono hj hji
   rw[H.1]at this
   cases this
 |succ fuel ih=>
  intro listed a w hfree hr hy H
  refine⟨λh=>(by rw[h]at hr;cases hr),λj hj=>?_⟩
  by_cases hji:j=i
  ·subst hji;exact hy.wpOp hi (hrf w) ⟨hrf w,H⟩
  ·have h1:=H.2 j (ready_mono hj hji)
   obtain⟨hjun,oj,hoj,hall⟩:=mem_ready.1 hj
   have hnot:∀e∈oj.after,Region.binds md e=true->e.on≠i:=λe he hb heq=>by
    have h1:=hall e he hb
    have h0:=(mem_ready.1 hr).1
    rw[heq]at h1
    rcases afp i listed.size with h'|h'
    ·simp[h']at h0 h1;rw[h0]at h1;cases h1
    ·simp[agR h']at h1
   have h2:=wpOp_putIf hoj (hfree j oj hoj hji hjun hnot) (λcs b=>hsel i oi cs b hi) (λcs b=>hsel j oj cs b hoj) hQ hy h1
   have hfree':∀k ok,ops[k]? =some ok->k≠i->(listed.setIfInBounds j true).getD k true=false->
     (∀e∈ok.after,Region.binds md e=true->e.on≠i)->oi.apart ops ok=true:=λk ok hk hki hun hno=>by
    refine hfree k ok hk hki ?_ hno
    by_cases hjk:j=k
    ·subst hjk;exact hjun
    ·rw[getD_set_ne true hjk]at hun;exact hun
   refine wpOp_mono (λa' w' h3=>⟨h3.2.1,ih (listed.setIfInBounds j true) a' w' hfree' (ready_mono hr (Ne.symm hji)) (ND htr h3.2.1 h3.1) ?_⟩) h2
   rw[Array.setIfInBounds_comm _ _ hji]
   exact h3.2.2
def uP (P:Program)(ops:Array Oper)(Q:Exit->Act->World->Prop)(E:World->World->Prop):List (Nat×Bool)->Act->World->Prop
 |[],a,w=>Q .normal a w
 |(i,true)::r,a,w=>∃o v,ops[i]? =some o/\YieldsIf P ops (E w) o v a/\uP P ops Q E r (a.put o.dst v) w
 |(i,false)::r,a,w=>wpOp P ops Q i (λa' w'=>E w w'/\uP P ops Q E r a' w') a w
def wu (md:Region.Mode)(ops:Array Oper):List (Nat×Bool)->Array Bool->Bool
 |[],listed=>(Region.ready md ops listed).isEmpty
 |(i,true)::r,listed=>Region.free md ops listed i&&(Region.ready md ops listed).contains i&&wu md ops r (listed.setIfInBounds i true)
 |(i,false)::r,listed=>Region.ready md ops listed==[i]&&wu md ops r (listed.setIfInBounds i true)
theorem Jh (hrf:∀w,E w w)(htr:∀a b c,E a b->E b c->E a c)(hs:Region.noSelect ops=true)(hQ:∀(d:Option Tmp) (v:Value) c a w,Q (.panic c) (a.put d v) w->Q (.panic c) a w):
  ∀(r:List (Nat×Bool)) (fuel:Nat) (listed:Array Bool) (a:Act) (w:World),r.length<=fuel->wu md ops r listed=true->uP P ops Q E r a w->Au P md ops Q E fuel listed a w
 |[],fuel,listed,a,w,_,hok,h=>by
  have hr:Region.ready md ops listed=[]:=by simpa[wu]using hok
  cases fuel with
  |zero=>exact⟨hr,h⟩
  |succ fuel=>exact⟨λ_=>h,by rw[hr];simp⟩
 |(i,true)::r,0,_,_,_,hl,_,_=>by simp at hl
 |(i,false)::r,0,_,_,_,hl,_,_=>by simp at hl
 |(i,true)::r,fuel+1,listed,a,w,hl,hok,h=>by
  simp only[wu,aeI]at hok
  obtain⟨o,v,ho,hy,hrest⟩:=h
  exact wo hrf htr ho (ai2 hs) (λc a w=>hQ o.dst v c a w) fuel listed a w (ai7 ho hok.1.1) (by simpa using hok.1.2) hy
   (Jh hrf htr hs hQ r fuel _ _ _ (by simpa using hl) hok.2 hrest)
 |(i,false)::r,fuel+1,listed,a,w,hl,hok,h=>by
  simp only[wu,aeI,ag4]at hok
  refine⟨λh0=>(by rw[h0]at hok;cases hok.1),λj hj=>?_⟩
  rw[hok.1]at hj
  obtain rfl:j=i:=by simpa using hj
  exact wpOp_mono (λa' w' h'=>⟨h'.1,Jh hrf htr hs hQ r fuel _ _ _ (by simpa using hl) hok.2 h'.2⟩) h
def Ext (w w':World):Prop:=Below w.heap.size w w'
theorem Ext.refl (w:World):Ext w w:=ahE _ _
theorem kZ {i:Nat}{o:Oper}(h:ops.toList[i]? =some o):ops[i]? =some o:=by rwa[afx]at h
theorem uP.pass {i:Nat}{o:Oper}{r:List (Nat×Bool)}{a:Act}{w:World}(ho:ops.toList[i]? =some o)(hw:Region.wanted o (yielded ops a.tmps)=false)
  (h:uP P ops Q Ext r (a.put o.dst undef) w):uP P ops Q Ext ((i,false)::r) a w:=
 ahW (kZ ho) λK' hK=>by rw[hw];exact hK _ _ ⟨Ext.refl _,h⟩
end
section
variable {P:Program} {ops:Array Oper} {Q:Exit->Act->World->Prop} {B:Nat}
abbrev AnyE (P:Program)(ops:Array Oper)(Q:Exit->Act->World->Prop)(B:Nat):Nat->Array Bool->Act->World->Prop:=Au P .any ops Q (Below B)
theorem Pq (B:Nat){id:Nat}{a:Act}{w:World}(hm:P.follows .mixedOrders=true)(h:AnyE P ops Q B ops.size (Array.replicate ops.size false) a w.drew):(Code.region id ops true).wp P Q a w:=
 ai4 hm (vV _ _ _ _ h)
theorem AnyE.take {i fuel:Nat}{o:Oper}{listed:Array Bool}{a:Act}{w:World}{v:Value}(hs:Region.noSelect ops=true)(ho:ops.toList[i]? =some o)(hf:Region.free .any ops listed i=true)(hr:(Region.ready .any ops listed).contains i=true)
  (hQ:∀(d:Tmp) (v:Value) c a w,Q (.panic c) (a.put (some d) v) w->Q (.panic c) a w) (hw:Region.wanted o (yielded ops a.tmps)=true) (hrun:∀W,Below B w W->(execOp a.eval o).run P W=.ok (.value v) W)
  (h:AnyE P ops Q B fuel (listed.setIfInBounds i true) (a.put o.dst v) w):AnyE P ops Q B (fuel+1) listed a w:=
 wo (λ_=>ahE _ _) (λ_ _ _=>Below.trans) (kZ ho) (ai2 hs) (λc a w h=>match o.dst,h with |none,h=>h|some d,h=>hQ d v c a w h) fuel listed a w (ai7 (kZ ho) hf) (by simpa using hr) (.inl ⟨hw,hrun⟩) h
theorem AnyE.all {rs:List Nat}{fuel:Nat}{listed:Array Bool}{a:Act}{w:World}(hr:Region.ready .any ops listed=rs)(hne:rs.isEmpty=false)
  (h:∀i∈rs,wpOp P ops Q i (λa' w'=>Below B w w'/\AnyE P ops Q B fuel (listed.setIfInBounds i true) a' w') a w):AnyE P ops Q B (fuel+1) listed a w:=
 ⟨λh0=>by rw[hr]at h0;subst h0;simp at hne,by rw[hr];exact h⟩
theorem AnyE.done {listed:Array Bool}{a:Act}{w:World}(hr:Region.ready .any ops listed=[])(h:Q .normal a w):AnyE P ops Q B 0 listed a w:=⟨hr,h⟩
theorem a7m {i:Nat}{o:Oper}{a:Act}{w w':World}{v:Value}{R:Act->World->Prop}(ho:ops.toList[i]? =some o)(hw:Region.wanted o (yielded ops a.tmps)=true)
  (hrun:(execOp a.eval o).run P w=.ok (.value v) w') (he:Below B w w') (h:R (a.put o.dst v) w'):wpOp P ops Q i (λa' w'=>Below B w w'/\R a' w') a w:=
 ahW (kZ ho) λK' hK=>by
  rw[hw]
  show Oper.wp P o a w K' Q
  unfold Oper.wp
  rw[hrun]
  simp only[Oper.upon]
  exact hK _ _ ⟨he,h⟩
theorem a0K {i:Nat}{o:Oper}{a:Act}{w w':World}{R:Act->World->Prop}(ho:ops.toList[i]? =some o)(hw:Region.wanted o (yielded ops a.tmps)=true)
  (hrun:(execOp a.eval o).run P w=.ok .skip w') (he:Below B w w') (h:R (a.put o.dst undef) w'):wpOp P ops Q i (λa' w'=>Below B w w'/\R a' w') a w:=
 ahW (kZ ho) λK' hK=>by
  rw[hw]
  show Oper.wp P o a w K' Q
  unfold Oper.wp
  rw[hrun]
  simp only[Oper.upon]
  exact hK _ _ ⟨he,h⟩
