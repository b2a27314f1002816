/- An abstract machine for the model's code. -/
import Derived.WalkKit
import Derived.OrdersHeld
import Derived.Test.YtnhnelgkcldkbaaGreatDoorAl
set_option linter.all false
open Nat renaming ble → aib, beq → aic, blt → aif, testBit → aij
namespace Go.Proofs.YtnhnelgkcldkbaaGreatDoor
def ahE:=@Go.RowKit.Below.refl
def ahF:=@Go.cell_of_row
def ahG:=@Go.run_underlying
def ahH:=@Go.Result.andThen_ok
def ahI:=@Go.World.cell?_of_block
def ahJ:=@Go.Sem.run_bind
def ahK:=@Go.World.block_lt_of_cell?
def ahL:=@Go.Sem.run_pure
def ahM:=@Go.heap_setCell_other
def ahN:=@Go.results_cell_row
def ahO:=@Go.run_sliceBound
def ahP:=@Go.bodyPost_ret
def ahQ:=@Go.wpList_load_row
def ahR:=@Go.IntKind.wrap_u64
def ahS:=@Go.info_parts
def ahT:=@Go.World.ownsRow_nil
def ahU:=@Go.wpList_store_row
def ahV:=@Go.run_equalIn_int
def ahW:=@Go.wpOp_step
def ahX:=@Go.heap_alloc_old
def ahY:=@Go.heap_alloc_new
def ahZ:=@Go.run_equalIn_bool'
def ai0:=@Go.IntKind.wrap_i64
def ai1:=@Go.run_storeCells_cells
def ai2:=@Go.Region.noSelect_spec
def ai3:=@Go.RowKit.Below.heap_setCell
def ai4:=@Go.wp_region_any
def ai5:=@Go.wpList_append_own
def ai6:=@Go.World.cells?_some
def ai7:=@Go.Region.free_spec
def ai8:=@Go.Oper.upon_value
def ai9:=@Go.setRow_heap
end Go.Proofs.YtnhnelgkcldkbaaGreatDoor
namespace Go.Proofs.YtnhnelgkcldkbaaGreatDoor
namespace Am
noncomputable section
inductive N where
 |c (n:Int)
 |x (i:Nat)
inductive S where
 |bool (b:Bool)
 |int (k:IntKind) (n:Int)
 |str (s:List UInt8)
 |ptr (l o:Nat)
 |PV
 |sl (l o n z:Nat) (c:Option Nat)
 |sle
 |uQ
 |fn (f:FuncId) (cs:List (Nat×Nat))
 |Qu
 |ifc
 |xi (k:IntKind) (i:Nat)
 |xs (l:List Nat)
 |xe (l:List (Nat×Int))
 |xa (l:List (Nat×Int)) (b:Bool)
 |px (l o n i:Nat)
 |rv (k:Nat)
 |pe (k:Nat) (i:N) (o:Nat)
 |top
inductive A where
 |s (x:S)
 |g (l:List S)
inductive V where
 |a (x:A)
 |t (l:List A)
 |any
abbrev V.s (x:S):V:=.a (.s x)
abbrev V.g (l:List S):V:=.a (.g l)
def undef:V:=.t []
def A.cells (x:A):List S:=A.rec (λx=>[x]) (λl=>l) x
def vS (x:S):Option V:=some (.a (.s x))
def vA (x:A):Option V:=some (.a x)
structure Blk where
 cells:List S
 own:Bool
abbrev Hp:=List (Nat×Blk)
def Hp.get (h:Hp):Nat->Option Blk:=List.rec (λ_=>none) (λp _ ih l=>bif p.1==l then some p.2 else ih l) h
def Hp.set (h:Hp):Nat->Blk->Hp:=List.rec (λ_ _=>[]) (λp t ih l c=>bif p.1==l then(p.1,c)::t else p::ih l c) h
def Hp.del (h:Hp):Nat->Hp:=List.rec (λ_=>[]) (λp _ ih l=>bif p.1==l then ih l else p::ih l) h
structure Heap where
 m:Hp
 next:Nat
def Heap.get (h:Heap)(l:Nat):Option Blk:=Hp.get h.m l
def Heap.alloc (h:Heap)(cells:List S):Heap:=⟨(h.next,⟨cells,true⟩)::h.m,h.next+1⟩
inductive D where
 |one
 |int (k:IntKind)
 |str
 |ptr (e:TypeId)
 |sl (e:TypeId)
 |ifc
 |arr (n:Nat) (e:TypeId)
 |st (fs:List (Nat×TypeId))
 |other
structure Ty where
 d:D
 size:Nat
 bytes:Nat
 zero:List S
 cmp:Bool
def D.agg (d:D):Bool:=match d with | .arr .. | .st _=>true|_=>false
def Ty.mk' (t:Ty)(cs:List S):Option A:=bif t.d.agg then some (.g cs)else match cs with |[x]=>some (.s x)|_=>none
section
variable {α β:Type}
def nth (l:List α):Nat->Option α:=List.rec (λ_=>none) (λx _ ih n=>Nat.rec (some x) (λm _=>ih m) n) l
def upd (l:List α):Nat->α->List α:=List.rec (λ_ _=>[]) (λx t ih n y=>Nat.rec (y::t) (λm _=>x::ih m y) n) l
def taken (l:List α):Nat->Option (List α):=List.rec (λn=>Nat.rec (some []) (λ_ _=>none) n) (λx _ ih n=>Nat.rec (some []) (λm _=>Option.rec none (λr=>some (x::r)) (ih m)) n) l
def ext (l:List α)(o n:Nat):Option (List α):=taken (l.drop o) n
def over (l:List α):List α->Option (List α):=List.rec (λys=>List.rec (some []) (λ_ _ _=>none) ys) (λx t ih ys=>List.rec (some (x::t)) (λy ys _=>Option.rec none (λr=>some (y::r)) (ih ys)) ys) l
def lay (l:List α)(o:Nat)(ys:List α):Option (List α):=Option.rec none (λr=>some (l.take o++r)) (over (l.drop o) ys)
def rep (n:Nat)(l:List α):List α:=Nat.rec [] (λ_ r=>l++r) n
def rE (f:α->Option β)(l:List α):Option (List β):=List.rec (some []) (λx _ ih=>Option.rec none (λy=>Option.rec none (λr=>some (y::r)) ih) (f x)) l
def ob (x:Option α)(f:α->Option β):Option β:=Option.rec none f x
end
def ofValue:Value->Option A
 | .bool b=>some (.s (.bool b))
 | .int k n=>some (.s (.int k n))
 | .string s=>some (.s (.str s.data.toList))
 | .pointer none=>some (.s .PV)
 | .slice none 0 0=>some (.s .uQ)
 | .nilIface=>some (.s .Qu)
 |_=>none
structure x9 where
 lf:List (Nat×Nat×Nat)
 sm:List (Nat×Nat×Nat)
 ld:List (List S×Nat×Nat)
 sr:List (List S×Nat×Nat×List S)
 eq:List (Nat×Nat×Nat)
abbrev x9.nought:x9:=⟨[],[],[],[],[]⟩
class Know where
 iv:List (Int×Int)
 ne:List (Nat×Nat)
 lt:List (Nat×Nat)
 mx:List Nat
 sq:List (List Nat×List Nat×Bool)
 ln:List (List Nat×Nat)
 cf:List (List (Nat×Int))
 df:List (Nat×Nat×Nat)
 sx:List (List Nat×List Nat×List (Nat×Int))
 ct:List (List Nat×N×Option N×List Nat)
 sb:List (Nat×Nat×Nat)
 ad:List (Nat×Int×Nat)
 xt:x9
abbrev Know.nought:Know:=⟨[],[],[],[],[],[],[],[],[],[],[],[],x9.nought⟩
def N.eqv (a b:N):Bool:=match a,b with | .c m,.c n=>decide (m=n)| .x i,.x j=>aic i j|_,_=>false
def N.eqo (a b:Option N):Bool:=match a,b with |none,none=>true|some a,some b=>a.eqv b|_,_=>false
def EY (i j:Nat)(l:List (Nat×Nat×Nat)):Option Nat:=List.rec none (λp _ ih=>bif aic p.1 i&&aic p.2.1 j then some p.2.2 else ih) l
def Oy (i:Nat)(c:Int)(l:List (Nat×Int×Nat)):Option Nat:=List.rec none (λp _ ih=>bif aic p.1 i&&decide (p.2.1=c)then some p.2.2 else ih) l
def orO {α:Type}(x y:Option α):Option α:=Option.rec y some x
def jO (l:List (Nat×Nat))(i j:Nat):Bool:=List.rec false (λp _ ih=>(aic p.1 i&&aic p.2 j)||ih) l
def S.num (x:S):Option (IntKind×N):=match x with | .int k n=>some (k,.c n)| .xi k i=>some (k,.x i)|_=>none
def S.txt (x:S):Option (List Nat):=match x with | .str s=>some (s.map UInt8.toNat)| .xs l=>some l|_=>none
def iO:List Nat->List Nat->Bool
 |[],[]=>true
 |a::r,b::s=>aic a b&&iO r s
 |_,_=>false
def xw:List (Nat×Int)->List (Nat×Int)->Bool
 |[],[]=>true
 |a::r,b::s=>aic a.1 b.1&&decide (a.2=b.2)&&xw r s
 |_,_=>false
def uo (x:Option Bool):Option Bool:=ob x λb=>some (!b)
section
variable [Know]
def N.iv (a:N):Option (Int×Int):=match a with | .c n=>some (n,n)| .x i=>nth Know.iv i
def ltI (a b:N):Option Bool:=ob a.iv λp=>ob b.iv λq=>bif decide (p.2<q.1)then some true else bif decide (q.2<=p.1)then some false else none
def eqI (a b:N):Option Bool:=ob a.iv λp=>ob b.iv λq=>bif decide (p.2<q.1)||decide (q.2<p.1)then some false else bif decide (p=q)&&decide (p.1=p.2)then some true else none
def ltX (a b:N):Option Bool:=
 match a,b with
 | .x i,.x j=>bif aic i j then some false else bif jO Know.lt i j then some true else bif jO Know.lt j i then some false else ltI (.x i) (.x j)
 |a,b=>ltI a b
def eqX (a b:N):Option Bool:=
 match a,b with
 | .x i,.x j=>bif aic i j then some true else bif jO Know.ne i j||jO Know.ne j i||jO Know.lt i j||jO Know.lt j i then some false else eqI (.x i) (.x j)
 |a,b=>eqI a b
def aas (op:BinOp)(a b:N):Option Bool:=
 match op with
 | .eql=>eqX a b
 | .neq=>uo (eqX a b)
 | .lss=>ltX a b
 | .gtr=>ltX b a
 | .leq=>uo (ltX b a)
 | .geq=>uo (ltX a b)
 |_=>none
def eqC (i:Nat)(c:Int):Option Bool:=ob (nth Know.iv i) λp=>bif decide (c<p.1)||decide (p.2<c)then some false else bif decide (p.1=c)&&decide (p.2=c)then some true else none
def zX:List (Nat×Int)->Option Bool:=List.rec (some false) λp _ ih=>Option.rec (ob ih λb=>bif b then some true else none) (λb=>bif b then some true else ih) (eqC p.1 p.2)
def a3I (l:List (Nat×Int))(p:Nat×Int):Bool:=List.rec false (λq _ ih=>(aic q.1 p.1&&decide (q.2=p.2))||ih) l
def Zp:List (Nat×Int)->Option Bool:=List.rec (some true) λp _ ih=>Option.rec (ob ih λb=>bif b then none else some false) (λb=>bif b then ih else some false) (eqC p.1 p.2)
def OX (l:List (Nat×Int)):Option Bool:=Option.rec (bif Know.cf.any (λm=>m.all (a3I l))then some false else none) some (Zp l)
def S.isBool (x:S):Option Bool:=match x with | .bool b=>some b| .xe l=>zX l| .xa l b=>ob (OX l) λc=>some (c==b)|_=>none
def a3Z {α:Type}(x y:S)(f:N->N->Option α):Option α:=ob x.num λp=>ob y.num λq=>bif p.1==q.1 then f p.2 q.2 else none
def aaf (op:BinOp)(x y:S):Option S:=a3Z x y λa b=>ob (aas op a b) λr=>some (.bool r)
def P6 (a b:List Nat):List (List Nat×List Nat×Bool)->Option Bool
 |[]=>none
 |(p,q,r)::t=>bif (iO p a&&iO q b)||(iO p b&&iO q a)then some r else P6 a b t
def eqS (a b:List Nat):Option Bool:=bif iO a b then some true else P6 a b Know.sq
def mxX:List Nat->Option Nat
 |[]=>some 0
 |n::r=>ob (mxX r) λm=>bif aif n 256 then some (m+1)else ob (nth Know.mx (n-256)) λk=>some (m+k)
def Iq (a b:List Nat):List (List Nat×List Nat×List (Nat×Int))->Option (List (Nat×Int))
 |[]=>none
 |(p,q,l)::t=>bif iO p a&&iO q b then some l else Iq a b t
def Ny (l:List Nat)(a:N)(b:Option N):List (List Nat×N×Option N×List Nat)->Option (List Nat)
 |[]=>none
 |(p,c,e,m)::t=>bif iO p l&&c.eqv a&&N.eqo e b then some m else Ny l a b t
def NP (a:List Nat):List (List Nat×Nat)->Option Nat
 |[]=>none
 |(p,j)::t=>bif iO p a then some j else NP a t
end
abbrev aU:=FuncId->List A->Heap->Nat->Option (V×Heap)
abbrev Tys:=TypeId->Option Ty
abbrev Fr:=List V
structure St where
 fr:Fr
 h:Heap
inductive X where
 |normal
 |exit (id:Nat)
 |ret
abbrev XS:=Option (X×St)
structure Tabs where
 len:List (Nat×Nat)
 el:List (Nat×N×List S)
 add:List (Nat×Int×Nat)
abbrev Tabs.nought:Tabs:=⟨[],[],[]⟩
abbrev Loops:=Nat->Nat->St->XS
structure Ctx where
 ty:Tys
 call:aU
 tb:Tabs
 loop:Loops
def ev (fr:Fr)(x:Operand):Option V:=
 Operand.rec (λt=>nth fr t) (λv=>ob (ofValue v) vA) (λ_=>none) (λf=>vS (.fn f [])) x
def V.isA (v:V):Option A:=V.rec some (λ_=>none) none v
def A.isS (v:A):Option S:=A.rec some (λ_=>none) v
def S.isInt (x:S):Option Int:=match x with | .int _ n=>some n|_=>none
def S.Rz (x:S):Option (Nat×Nat):=match x with | .ptr l o=>some (l,o)|_=>none
def evA (fr:Fr)(x:Operand):Option A:=ob (ev fr x) V.isA
def evS (fr:Fr)(x:Operand):Option S:=ob (evA fr x) A.isS
def yu (fr:Fr)(x:Operand):Option Int:=ob (evS fr x) S.isInt
def vH (fr:Fr)(x:Operand):Option (Nat×Nat):=ob (evS fr x) S.Rz
def maxStr:Nat:=1099511627776
def shl (k:IntKind)(a b:Int):Option S:=bif decide (b<0)then none else some (.int k (k.wrap (a*2^min b.toNat k.bits)))
def shr (k:IntKind)(a b:Int):Option S:=bif decide (b<0)then none else some (.int k (a.fdiv (2^min b.toNat k.bits)))
def quo (k:IntKind)(a b:Int):Option S:=bif b==0 then none else some (.int k (k.wrap (a.tdiv b)))
def rem (k:IntKind)(a b:Int):Option S:=bif b==0 then none else some (.int k (a.tmod b))
def wU (op:BinOp)(k:IntKind)(a b:Int):Option S:=
 match op with
 | .add=>some (.int k (k.wrap (a+b)))
 | .sub=>some (.int k (k.wrap (a-b)))
 | .mul=>some (.int k (k.wrap (a*b)))
 | .quo=>quo k a b
 | .rem=>rem k a b
 | .and=>some (.int k (bits .and k a b))
 | .or=>some (.int k (bits .or k a b))
 | .xor=>some (.int k (bits .xor k a b))
 | .andNot=>some (.int k (bits .andNot k a b))
 | .eql=>some (.bool (a==b))
 | .neq=>some (.bool (a != b))
 | .lss=>some (.bool (a<b))
 | .leq=>some (.bool (a<=b))
 | .gtr=>some (.bool (a>b))
 | .geq=>some (.bool (a>=b))
 |_=>none
section
variable [Know]
def aed (a b:List Nat):Option S:=ob (mxX (a++b)) λm=>bif aib m maxStr then some (.xs (a++b))else none
def aa8 (op:BinOp)(x y:S):Option S:=ob x.txt λa=>ob y.txt λb=>match op with
 | .add=>aed a b
 | .eql=>orO (ob (eqS a b) λr=>some (.bool r)) (ob (Iq a b Know.sx) λl=>some (.xa l true))
 | .neq=>orO (ob (eqS a b) λr=>some (.bool (!r))) (ob (Iq a b Know.sx) λl=>some (.xa l false))
 |_=>none
def a2P (d:Nat):S:=Option.rec (.xe [(d,1)]) (λb=>.bool b) (eqC d 1)
def a3R (d:Nat):S:=Option.rec (.xa [(d,1)] false) (λb=>.bool (!b)) (eqC d 1)
def KG (k k':IntKind)(i j:Nat)(f:Nat->S):Option S:=bif k==k' then ob (EY i j Know.xt.lf) λd=>some (f d)else none
def VF (k k':IntKind)(i j:Nat)(f:Nat->S):Option S:=bif k==k' then ob (EY i j Know.xt.eq) λd=>some (f d)else none
def adh (op:BinOp)(x y:S):Option S:=match op,x,y with
 | .lss,.xi k i,.xi k' j=>KG k k' i j a2P
 | .gtr,.xi k i,.xi k' j=>KG k k' j i a2P
 | .geq,.xi k i,.xi k' j=>KG k k' i j a3R
 | .leq,.xi k i,.xi k' j=>KG k k' j i a3R
 | .eql,.xi k i,.xi k' j=>VF k k' i j a2P
 | .neq,.xi k i,.xi k' j=>VF k k' i j a3R
 |_,_,_=>none
def adk (op:BinOp)(x y:A):Option S:=match x,y with | .s x,.s y=>orO (aaf op x y) (orO (aa8 op x y) (adh op x y))|_,_=>none
end
def Ub (op:BinOp)(k:IntKind)(a:Int)(k':IntKind)(b:Int):Option S:=
 match op with
 | .shl=>shl k a b
 | .shr=>shr k a b
 |op=>bif k==k' then wU op k a b else none
def cat (a b:List UInt8):Option S:=bif aib (a.length+b.length) maxStr then some (.str (a++b))else none
def GR (op:BinOp)(a b:List UInt8):Option S:=
 match op with
 | .add=>cat a b
 | .eql=>some (.bool (a==b))
 | .neq=>some (.bool (!(a==b)))
 | .lss=>some (.bool (Op.bytesLess a b))
 | .geq=>some (.bool (!(Op.bytesLess a b)))
 | .leq=>some (.bool (Op.bytesLess a b||a==b))
 | .gtr=>some (.bool (!(Op.bytesLess a b||a==b)))
 |_=>none
inductive Q where
 |b (b:Bool)
 |c (l:List (Nat×Int))
def Q.and (p q:Q):Q:=match p,q with
 | .b true,q=>q
 | .b false,_=>.b false
 | .c _,.b false=>.b false
 | .c l,.b true=>.c l
 | .c l,.c m=>.c (l++m)
def TN (r:Option Q)(k:Option Q):Option Q:=ob r λp=>match p with | .b false=>some (.b false)|p=>ob k λq=>some (p.and q)
def eqFields (ty:Tys)(f:TypeId->List S->List S->Option Q)(xs ys:List S):List (Nat×TypeId)->Option Q
 |[]=>some (.b true)
 |(o,t)::r=>ob (ty t) λT=>ob (ext xs o T.size) λx=>ob (ext ys o T.size) λy=>TN (f t x y) (eqFields ty f xs ys r)
def FN (f:TypeId->List S->List S->Option Q)(e:TypeId)(z:Nat)(xs ys:List S):Nat->Nat->Option Q
 |0,_=>some (.b true)
 |n+1,i=>ob (ext xs (i*z) z) λx=>ob (ext ys (i*z) z) λy=>TN (f e x y) (FN f e z xs ys n (i+1))
def a4Q (x y:S):Option Bool:=match x,y with | .int k a,.int k' b=>bif k==k' then some (a==b)else none|_,_=>none
def a8Y [Know](x y:S):Option Bool:=orO (a4Q x y) (a3Z x y eqX)
def XO (x y:S):Option Bool:=match x,y with | .bool a,.bool b=>some (a==b)| .xe l,.xe m=>bif xw l m then some true else none| .xa l b,.xa m c=>bif xw l m then some (b==c)else none|_,_=>none
def xK [Know](x y:S):Option Bool:=orO (XO x y) (ob x.isBool λa=>ob y.isBool λb=>some (a==b))
def a1s (x y:S):Option Bool:=match x,y with | .str a,.str b=>some (a==b)|_,_=>none
def eqStr [Know](x y:S):Option Bool:=orO (a1s x y) (ob x.txt λa=>ob y.txt λb=>eqS a b)
def nilPtr (x:S):Option Bool:=match x with | .PV=>some true| .ptr _ _=>some false|_=>none
def MX (x:S):Option Bool:=match x with | .uQ=>some true| .sl .. =>some false| .sle=>some false|_=>none
def La (x:S):Option Bool:=match x with | .Qu=>some true| .ifc=>some false|_=>none
def eqNil (p q:Option Bool):Option Bool:=ob p λp=>ob q λq=>bif p||q then some (p&&q)else none
def one1 {α:Type}(f:S->S->Option α)(xs ys:List S):Option α:=match xs,ys with |[x],[y]=>f x y|_,_=>none
def qA (i:Nat)(c:Int):Q:=.c [(i,c)]
def UM [Know](x y:S):Option Q:=match x,y with
 | .xi k i,.int k' c=>bif k==k' then Option.rec (some (qA i c)) (λb=>some (.b b)) (eqC i c)else none
 | .int k' c,.xi k i=>bif k==k' then Option.rec (some (qA i c)) (λb=>some (.b b)) (eqC i c)else none
 | .xi k i,.xi k' j=>bif k==k' then orO (ob (eqX (.x i) (.x j)) λb=>some (.b b)) (ob (EY i j Know.df) λd=>some (qA d 0))else none
 |x,y=>ob (a8Y x y) λb=>some (.b b)
def MJ [Know](l:List (Nat×Int))(b:Bool):Option Q:=match l with
 |[(i,c)]=>Option.rec (bif b then some (qA i c)else ob (nth Know.iv i) λp=>bif decide (p=(0,1))&&decide (c=1)then some (qA i 0)else none) (λv=>some (.b (v==b))) (eqC i c)
 |_=>none
def Zt [Know](i:Nat):Bool:=Option.rec false (λp=>decide (p=((0,1):Int×Int))) (nth Know.iv i)
def dfB [Know](l m:List (Nat×Int)):Option Q:=match l,m with
 |[(i,c)],[(j,e)]=>bif decide (c=1)&&decide (e=1)&&Zt i&&Zt j then ob (EY i j Know.df) λd=>some (qA d 0)else none
 |_,_=>none
def NR [Know](x y:S):Option Q:=match x,y with
 | .xe l,.bool b=>orO (MJ l b) (ob (xK x y) λb=>some (.b b))
 | .bool b,.xe l=>orO (MJ l b) (ob (xK x y) λb=>some (.b b))
 | .xe l,.xe m=>orO (ob (xK x y) λb=>some (.b b)) (dfB l m)
 |x,y=>ob (xK x y) λb=>some (.b b)
section
variable [Know]
def eqD (ty:Tys)(f:TypeId->List S->List S->Option Q)(cmp:Bool)(d:D)(xs ys:List S):Option Q:=
 match d with
 | .int _=>one1 UM xs ys
 | .one=>one1 NR xs ys
 | .str=>ob (one1 eqStr xs ys) λb=>some (.b b)
 | .st fs=>bif cmp then eqFields ty f xs ys fs else none
 | .arr n e=>ob (ty e) λE=>FN f e E.size xs ys n 0
 |_=>none
def OT (ty:Tys)(n:Nat):TypeId->List S->List S->Option Q:=
 Nat.rec (λ_ _ _=>none) (λ_ ih t xs ys=>ob (ty t) λT=>eqD ty ih T.cmp T.d xs ys) n
def Ug (c:Bool)(d:D)(x y:S):Option Bool:=
 match d with
 | .one=>xK x y
 | .ptr _=>eqNil (nilPtr x) (nilPtr y)
 | .sl _=>eqNil (MX x) (MX y)
 | .ifc=>bif c then eqNil (La x) (La y)else none
 |_=>none
def X6 (ty:Tys)(c:Bool)(t:TypeId)(x y:A):Option Q:=
 match x,y with
 | .s x,.s y=>ob (ty t) λT=>ob (Ug c T.d x y) λb=>some (.b b)
 | .g xs,.g ys=>ob (ty t) λT=>bif T.cmp then OT ty 20 t xs ys else none
 |_,_=>none
def a8L (ty:Tys)(c:Bool)(op:BinOp)(t:TypeId)(x y:A):Option S:=
 match op with
 | .eql=>ob (X6 ty c t x y) λq=>some (match q with | .b b=>.bool b| .c l=>.xa l true)
 | .neq=>ob (X6 ty c t x y) λq=>some (match q with | .b b=>.bool (!b)| .c l=>.xa l false)
 |_=>none
inductive K where
 |int (k:IntKind) (n:Int)
 |str (s:List UInt8)
 |no
def S.k (x:S):K:=match x with | .int k n=>.int k n| .str s=>.str s|_=>.no
def A.k (x:A):K:=match x with | .s x=>x.k| .g _=>.no
def acB (ty:Tys)(c:Bool)(op:BinOp)(t:TypeId)(x y:A)(p q:K):Option S:=
 match p,q with
 | .int k a,.int k' b=>Ub op k a k' b
 | .str a,.str b=>GR op a b
 | .no,.no=>a8L ty c op t x y
 |_,_=>none
def bin (ty:Tys)(c:Bool)(op:BinOp)(t:TypeId)(x y:A):Option V:=ob (orO (acB ty c op t x y x.k y.k) (adk op x y)) vS
def isConst (x:Operand):Bool:=match x with | .const _=>true|_=>false
def un (op:UnOp)(x:S):Option V:=
 match op,x with
 | .neg,.int k n=>vS (.int k (k.wrap (0-n)))
 | .not,.xa l b=>vS (.xa l (!b))
 | .not,x=>ob x.isBool λb=>vS (.bool (!b))
 |_,_=>none
def idx (n:Int)(len:Nat):Option Nat:=Int.rec (λi=>bif aif i len then some i else none) (λ_=>none) n
def bnd (n:Int)(len:Nat):Option Nat:=Int.rec (λi=>bif aib i len then some i else none) (λ_=>none) n
def oi (x:Option Int)(d:Int):Int:=Option.rec d (λx=>x) x
def JV (len cap:Nat)(lo hi:Option Int)(k:Nat->Nat->Option S):Option S:=
 ob (bnd (oi hi len) cap) λh=>ob (bnd (oi lo 0) h) λl=>k l h
def U0 (l o z k h:Nat)(c:Option Nat):Option S:=bif h==k then some .sle else some (.sl l (o+k*z) (h-k) z c)
def a5g (s:List UInt8)(lo hi:Option Int):Option S:=JV s.length s.length lo hi λl h=>some (.str ((s.take h).drop l))
def adB (l o n z:Nat)(c:Option Nat)(lo hi:Option Int):Option S:=
 Option.rec (JV n n lo hi λk h=>U0 l o z k h none) (λc=>JV n c lo hi λk h=>U0 l o z k h (some (c-k))) c
def a3M (l o n z:Nat)(c:Option Nat)(lo hi:Option Int)(mx:Int):Option S:=
 ob c λc=>ob (bnd mx c) λm=>ob hi λh=>JV n m lo (some h) λk h=>U0 l o z k h (some (m-k))
def U5 (l o n z:Nat)(c:Option Nat)(lo hi mx:Option Int):Option S:=
 Option.rec (adB l o n z c lo hi) (λm=>a3M l o n z c lo hi m) mx
def aaB (lo hi:Option Int):Option S:=JV 0 0 lo hi λ_ _=>some .uQ
def Ej (fr:Fr)(x:Option Operand):Option (Option Int):=Option.rec (some none) (λx=>ob (yu fr x) λn=>some (some n)) x
def fill (place:Nat->Option (Nat×Nat))(parts:List (Nat×A)):List S->Option (List S):=
 List.rec (λcells=>some cells) (λp _ ih cells=>ob (place p.1) λq=>bif p.2.cells.length==q.2&&aib (q.1+q.2) cells.length then ob (lay cells q.1 p.2.cells) ih else none) parts
def yS (fr:Fr)(ps:List (Nat×Operand)):Option (List (Nat×A)):=rE (λp=>ob (evA fr p.2) λv=>some (p.1,v)) ps
def a98 (x y:S):Option S:=match x,y with | .int k a,.int _ b=>some (.int k (bif decide (b>a)then b else a))|_,_=>none
def a8S (x y:S):Option S:=match x,y with | .int k a,.int _ b=>some (.int k (bif decide (b<a)then b else a))|_,_=>none
def abB (x y:S):Option S:=orO (a98 x y) (a3Z x y λa b=>ob (ltX a b) λl=>some (bif l then y else x))
def acP (x y:S):Option S:=orO (a8S x y) (a3Z x y λa b=>ob (ltX b a) λl=>some (bif l then y else x))
def XI (f:S->S->Option S):S->List S->Option S
 |x,[]=>some x
 |x,y::r=>ob (f x y) λz=>XI f z r
def yK (ty:Tys)(s:TypeId)(f:Nat):Option (Nat×Ty):=
 ob (ty s) λT=>match T.d with
  | .st fs=>ob (nth fs f) λp=>ob (ty p.2) λF=>some (p.1,F)
  |_=>none
def elemOf (ty:Tys)(t:TypeId):Option Ty:=ob (ty t) λT=>match T.d with | .sl e=>ty e|_=>none
def Qd (ty:Tys)(t:TypeId):Option (Nat×Ty):=ob (ty t) λT=>match T.d with | .arr n e=>ob (ty e) λE=>some (n,E)|_=>none
def a3Q (fr:Fr)(c a b:Operand):Option V:=ob (evS fr c) λx=>ob x.isBool λt=>bif t then ev fr a else ev fr b
def binOp' (ty:Tys)(fr:Fr)(op:BinOp)(t:TypeId)(x y:Operand):Option V:=ob (evA fr x) λx'=>ob (evA fr y) λy'=>bin ty (isConst x||isConst y) op t x' y'
def a8K (fr:Fr)(op:UnOp)(x:Operand):Option V:=ob (evS fr x) (un op)
def Nl (d:D)(x:S):Option V:=
 match d,x with
 | .int k,.int _ n=>vS (.int k (k.wrap n))
 | .str,.str s=>vS (.str s)
 | .int k,.xi _ i=>ob (nth Know.iv i) λp=>bif decide (k.min<=p.1)&&decide (p.2<=k.max)then vS (.xi k i)else none
 | .str,.xs l=>vS (.xs l)
 |_,_=>none
def a3v (ty:Tys)(fr:Fr)(src dst:TypeId)(x:Operand):Option V:=ob (ty src) λ_=>ob (ty dst) λT=>ob (evS fr x) λx=>Nl T.d x
def MQ (fr:Fr)(t:Operand)(i:Nat):Option V:=ob (ev fr t) λv=>V.rec (λ_=>none) (λl=>ob (nth l i) vA) none v
def EK (ty:Tys)(fr:Fr)(s:TypeId)(x:Operand)(f:Nat):Option V:=
 ob (vH fr x) λp=>ob (yK ty s f) λq=>bif q.2.size==0 then none else vS (.ptr p.1 (p.2+q.1))
def a8Z (x:A):Option (List S):=A.rec (λ_=>none) some x
def Xb (ty:Tys)(fr:Fr)(s:TypeId)(x:Operand)(f:Nat):Option V:=
 ob (evA fr x) λx=>ob (a8Z x) λcs=>ob (yK ty s f) λq=>ob (ext cs q.1 q.2.size) λc=>ob (q.2.mk' c) vA
def zD (ty:Tys)(t:TypeId)(i:Int)(x:S):Option V:=
 match x with
 | .ptr l o=>ob (Qd ty t) λq=>ob (idx i q.1) λi=>vS (.ptr l (o+i*q.2.size))
 | .sl l o n z _=>ob (elemOf ty t) λE=>ob (idx i n) λi=>bif E.size==z then vS (.ptr l (o+i*z))else none
 |_=>none
def Aw (ty:Tys)(t:TypeId)(i x:S):Option V:=
 match i,x with
 | .xi _ i,.ptr l o=>ob (Qd ty t) λq=>ob (nth Know.iv i) λp=>bif q.2.size==1&&decide (0<=p.1)&&decide (p.2<q.1)then vS (.px l o q.1 i)else none
 |_,_=>none
def Jk (ty:Tys)(t:TypeId)(i x:S):Option V:=orO (ob i.isInt λi=>zD ty t i x) (Aw ty t i x)
def F6 (ty:Tys)(fr:Fr)(t:TypeId)(x i:Operand):Option V:=ob (evS fr x) λx=>ob (evS fr i) λi=>Jk ty t i x
def indexStr (ty:Tys)(t:TypeId)(i:Int)(x:S):Option V:=
 match x with
 | .str s=>ob (ty t) λT=>match T.d with
  | .str=>ob (idx i s.length) λi=>ob (nth s i) λb=>vS (.int .u8 b.toNat)
  |_=>none
 |_=>none
def PE (ty:Tys)(t:TypeId)(i:Int)(cs:List S):Option V:=
 ob (Qd ty t) λq=>ob (idx i q.1) λi=>ob (ext cs (i*q.2.size) q.2.size) λc=>ob (q.2.mk' c) vA
def XK (ty:Tys)(fr:Fr)(t:TypeId)(x i:Operand):Option V:=
 ob (evA fr x) λx=>ob (yu fr i) λi=>A.rec (λx=>indexStr ty t i x) (λcs=>PE ty t i cs) x
def nV (ty:Tys)(t:TypeId):Bool:=Option.rec false (λT=>match T.d with | .str=>true|_=>false) (ty t)
def TR (ty:Tys)(t:TypeId)(lo hi mx:Option Int)(x:S):Option S:=
 match x with
 | .ptr l o=>ob (Qd ty t) λq=>bif q.2.size==0 then none else U5 l o q.1 q.2.size (some q.1) lo hi mx
 | .str s=>bif nV ty t then Option.rec (a5g s lo hi) (λ_=>none) mx else none
 | .sl l o n z c=>ob (elemOf ty t) λE=>bif E.size==z then U5 l o n z c lo hi mx else none
 | .uQ=>ob (elemOf ty t) λ_=>Option.rec (aaB lo hi) (λ_=>none) mx
 |_=>none
def Wj (ty:Tys)(fr:Fr)(t:TypeId)(x:Operand)(lo hi mx:Option Operand):Option V:=
 ob (evS fr x) λx=>ob (Ej fr lo) λlo=>ob (Ej fr hi) λhi=>ob (Ej fr mx) λmx=>ob (TR ty t lo hi mx x) vS
def Qz (fr:Fr)(x:Option Operand):Option (Option N):=Option.rec (some none) (λx=>ob (evS fr x) λx=>ob x.num λp=>some (some p.2)) x
def Y4 {α:Type}(x:Option α):Bool:=Option.rec true (λ_=>false) x
def a7I (ty:Tys)(fr:Fr)(t:TypeId)(x:Operand)(lo hi mx:Option Operand):Option V:=
 bif Y4 mx&&nV ty t then ob (evS fr x) λx=>ob x.txt λl=>ob (Qz fr lo) λa=>ob (Qz fr hi) λb=>ob (Ny l (a.getD (.c 0)) b Know.ct) λm=>vS (.xs m)else none
def Vx (ty:Tys)(p:Nat×TypeId):Option (Nat×Nat):=ob (ty p.2) λF=>some (p.1,F.size)
def TA (ty:Tys)(T:Ty)(ps:List (Nat×A)):Option V:=
 match T.d with
 | .st fs=>ob (rE (Vx ty) fs) λpl=>ob (fill (nth pl) ps T.zero) λcs=>vA (.g cs)
 | .arr _ e=>ob (ty e) λE=>ob (fill (λi=>some (i*E.size,E.size)) ps T.zero) λcs=>vA (.g cs)
 |_=>none
def Xv (ty:Tys)(fr:Fr)(t:TypeId)(ps:List (Nat×Operand)):Option V:=ob (ty t) λT=>ob (yS fr ps) λps=>TA ty T ps
def zU (fr:Fr)(fn:Fn)(first captured:List Operand):Option V:=
 match fn,first with
 | .func f,[]=>ob (rE (vH fr) captured) λcs=>vS (.fn f cs)
 |_,_=>none
def Jm (fr:Fr)(x:Operand):Option V:=ob (vH fr x) λp=>vS (.ptr p.1 p.2)
def lenD (d:D)(x:A):Option Nat:=
 match d with
 | .str=>(match x with | .s (.str s)=>some s.length|_=>none)
 | .sl _=>(match x with | .s (.sl _ _ n _ _)=>some n| .s .sle=>some 0| .s .uQ=>some 0|_=>none)
 | .arr n _=>some n
 |_=>none
def a2b (d:D)(x:A):Option V:=
 match d,x with
 | .str,.s (.xs l)=>ob (NP l Know.ln) λj=>vS (.xi .i64 j)
 |_,_=>none
def a4R (ty:Tys)(fr:Fr)(ts:List TypeId)(xs:List Operand):Option V:=
 match ts,xs with
 |t::_,[x]=>ob (ty t) λT=>ob (evA fr x) λx=>orO (ob (lenD T.d x) λn=>vS (.int .i64 n)) (a2b T.d x)
 |_,_=>none
def SS (fr:Fr)(f:S->S->Option S)(xs:List Operand):Option V:=
 ob (rE (evS fr) xs) λl=>match l with |x::r=>ob (XI f x r) vS|[]=>none
def l9 (ty:Tys)(fr:Fr)(c:Call)(b:Builtin):Option V:=
 match b with
 | .len=>a4R ty fr c.argTypes.toList c.args.toList
 | .max=>SS fr abB c.args.toList
 | .min=>SS fr acP c.args.toList
 |_=>none
def Heap.read (h:Heap)(l o n:Nat):Option (List S):=ob (h.get l) λb=>ext b.cells o n
def vk (h:Heap)(x:S):Option (Nat×List S):=
 match x with
 | .sl l o n z _=>ob (h.read l o (n*z)) λc=>some (n,c)
 | .sle=>some (0,[])
 | .uQ=>some (0,[])
 | .str s=>some (s.length,s.map λb=>.int .u8 b.toNat)
 |_=>none
abbrev R:=Option (V×Heap)
def orR (r:R)(k:R):R:=Option.rec k some r
def a4a (ty:Tys)(fr:Fr)(h:Heap)(t:TypeId)(x:Operand):R:=
 ob (ty t) λT=>ob (vH fr x) λp=>ob (h.read p.1 p.2 T.size) λcs=>ob (T.mk' cs) λv=>some (.a v,h)
def a4Z (x y:S):Bool:=match x,y with | .int k a,.int k' b=>k==k'&&decide (a=b)| .xi k i,.xi k' j=>k==k'&&aic i j|_,_=>false
def wO:List S->List S->Bool
 |[],[]=>true
 |a::r,b::s=>a4Z a b&&wO r s
 |_,_=>false
def Tc (cs:List S)(i:Nat)(l:List (List S×Nat×Nat)):Option Nat:=List.rec none (λp _ ih=>bif aic p.2.1 i&&wO p.1 cs then some p.2.2 else ih) l
def UD (cs:List S)(i m:Nat)(l:List (List S×Nat×Nat×List S)):Option (List S):=List.rec none (λp _ ih=>bif aic p.2.1 i&&aic p.2.2.1 m&&wO p.1 cs then some p.2.2.2 else ih) l
def a3d [Know](ty:Tys)(fr:Fr)(h:Heap)(t:TypeId)(x:Operand):R:=
 ob (ty t) λT=>ob (evS fr x) λx=>match x with
  | .px l o n i=>bif T.size==1&&!T.d.agg then ob (h.read l o n) λcs=>ob (Tc cs i Know.xt.ld) λm=>some (.a (.s (.xi .i64 m)),h)else none
  |_=>none
def a2v [Know](ty:Tys)(fr:Fr)(h:Heap)(t:TypeId)(x:Operand):R:=orR (a4a ty fr h t x) (a3d ty fr h t x)
def newAt (h:Heap)(cs:List S):R:=some (.a (.s (.ptr h.next 0)),h.alloc cs)
def a6j (ty:Tys)(h:Heap)(t:TypeId):R:=ob (ty t) λT=>newAt h T.zero
def a8z (fr:Fr)(h:Heap)(x:Operand):R:=ob (evA fr x) λv=>newAt h v.cells
def Wi (h:Heap)(n z:Nat)(c:Option Nat)(cs:List S):R:=some (.a (.s (.sl h.next 0 n z c)),h.alloc cs)
def okE (E:Ty):Bool:=aib E.bytes 65536&&(!(E.size==0))&&E.zero.length==E.size
def Dt (ty:Tys)(fr:Fr)(h:Heap)(t:TypeId)(len:Nat)(ps:List (Nat×Operand)):R:=
 ob (elemOf ty t) λE=>ob (yS fr ps) λps=>
  bif okE E&&aib (len*E.size) 65536 then ob (fill (λi=>some (i*E.size,E.size)) ps (rep len E.zero)) (Wi h len E.size (some len))else none
def a3y (n:Int):Option Nat:=Int.rec some (λ_=>none) n
def ES (ty:Tys)(fr:Fr)(h:Heap)(t:TypeId)(len cap:Operand):R:=
 ob (elemOf ty t) λE=>ob (yu fr len) λn=>ob (a3y n) λn=>ob (yu fr cap) λc=>ob (a3y c) λc=>
  bif okE E&&aib n c&&aib c 65536 then Wi h n E.size (some c) (rep c E.zero)else none
def u8T (ty:Tys)(t:TypeId):Bool:=Option.rec false (λE=>match E.d with | .int .u8=>E.size==1|_=>false) (elemOf ty t)
def u8S (x:S):Option UInt8:=match x with | .int .u8 n=>some (UInt8.ofNat n.toNat)|_=>none
def strOf (h:Heap)(x:S):R:=
 match x with
 | .uQ=>some (.a (.s (.str [])),h)
 | .sle=>some (.a (.s (.str [])),h)
 | .sl l o n z _=>bif z==1 then ob (h.read l o n) λcs=>ob (rE u8S cs) λbs=>some (.a (.s (.str bs)),h)else none
 |_=>none
def bytesOf (_:Heap)(_:S):R:=none
def a9i (ty:Tys)(fr:Fr)(h:Heap)(src dst:TypeId)(x:Operand):R:=
 ob (evS fr x) λx=>
  bif nV ty dst&&u8T ty src then strOf h x else bif nV ty src&&u8T ty dst then bytesOf h x else none
def EX (E:Ty)(k:Nat)(cs:List S):Bool:=okE E&&aib k 65536&&cs.length==k*E.size
def aaL (h:Heap)(E:Ty)(k:Nat)(cs:List S)(s:S):R:=
 match s with
 | .uQ=>bif k==0 then some (.a (.s .uQ),h)else Wi h k E.size none cs
 | .sl l o n z (some q)=>bif z==E.size&&aib n 65536 then
   (bif k==0 then some (.a (.s (.sl l o n z (some q))),h)else bif aib (n+k) q then none else
    ob (h.read l o (n*z)) λold=>Wi h (n+k) z none (old++cs))else none
 | .sl l o n z none=>bif z==E.size&&aib n 65536&&k==0 then some (.a (.s (.sl l o n z none)),h)else none
 |_=>none
def appW (h:Heap)(fl:Nat)(k:Nat)(cs:List S)(s:S):R:=
 match s with
 | .sl l o n z (some c)=>bif aib n 65536&&aib (n+k) c&&aib fl l then
   ob (h.get l) λb=>bif b.own then ob (lay b.cells (o+n*z) cs) λcs'=>some (.a (.s (.sl l o (n+k) z (some c))),⟨Hp.set h.m l ⟨cs',true⟩,h.next⟩)else none else none
 | .sl l o n z none=>bif aib n 65536&&aib fl l&&o==0 then
   ob (h.get l) λb=>bif b.own&&aib (n*z) b.cells.length then
    some (.a (.s (.sl h.next 0 (n+k) z none)),⟨(h.next,⟨b.cells.take (n*z)++cs,true⟩)::Hp.del h.m l,h.next+1⟩)else none else none
 |_=>none
def szS (s:S):Nat:=match s with | .sl _ _ _ z _=>z|_=>0
def EL (ty:Tys)(t:TypeId):Bool:=Option.rec false (λT=>match T.d with | .str=>true| .sl _=>true|_=>false) (ty t)
def GL (ty:Tys)(fr:Fr)(h:Heap)(ts:List TypeId)(xs:List Operand)(k:Ty->Nat->List S->S->R):R:=
 match ts,xs with
 |[t,u],[s,x]=>bif EL ty u then ob (elemOf ty t) λE=>ob (evS fr s) λs=>ob (evS fr x) λx=>ob (vk h x) λp=>bif EX E p.1 p.2 then k E p.1 p.2 s else none else none
 |_,_=>none
def a4e (ty:Tys)(fr:Fr)(h:Heap)(c:Call):R:=GL ty fr h c.argTypes.toList c.args.toList (λE k cs s=>aaL h E k cs s)
def a3A (ty:Tys)(fr:Fr)(h:Heap)(fl:Nat)(c:Call):R:=GL ty fr h c.argTypes.toList c.args.toList (λE k cs s=>bif szS s==E.size then appW h fl k cs s else none)
def aay (i:Nat):Nat->List S->Option (List S)
 |_,[]=>some []
 |j,x::r=>ob (match x with | .bool true=>some (.bool true)| .bool false=>some (.xe [(i,(j:Int))])| .xe l=>some (.xe ((i,(j:Int))::l))|_=>none) λy=>ob (aay i (j+1) r) λr=>some (y::r)
def Ti [Know](i:Nat)(v:S)(cs:List S):Option (List S):=match v with
 | .bool true=>aay i 0 cs
 | .xi .i64 m=>UD cs i m Know.xt.sr
 |_=>none
def Oa [Know](ty:Tys)(h:Heap)(fl:Nat)(t:TypeId)(x v:S):R:=
 match x with
 | .px l o n i=>ob (ty t) λT=>bif T.size==1&&aib fl l then
   ob (h.get l) λb=>bif b.own then ob (ext b.cells o n) λcs=>ob (Ti i v cs) λcs=>ob (lay b.cells o cs) λcs=>some (undef,⟨Hp.set h.m l ⟨cs,true⟩,h.next⟩)else none else none
 |_=>none
def Ry [Know](ty:Tys)(fr:Fr)(h:Heap)(fl:Nat)(t:TypeId)(x v:Operand):R:=ob (evS fr x) λx=>ob (evS fr v) λv=>Oa ty h fl t x v
def Wv (ty:Tys)(fr:Fr)(h:Heap)(fl:Nat)(t:TypeId)(x v:Operand):R:=
 ob (ty t) λT=>ob (vH fr x) λp=>ob (evA fr v) λv=>
  bif v.cells.length==T.size&&aib fl p.1 then
   ob (h.get p.1) λb=>bif b.own then ob (lay b.cells p.2 v.cells) λcs=>some (undef,⟨Hp.set h.m p.1 ⟨cs,true⟩,h.next⟩)else none else none
def UJ (h:Heap)(fl:Nat)(E:Ty)(s:S):R:=
 match s with
 | .uQ=>some (undef,h)
 | .sle=>some (undef,h)
 | .sl l o n z _=>bif n==0 then some (undef,h)else bif z==E.size&&okE E&&aib fl l then
   ob (h.get l) λb=>bif b.own then ob (lay b.cells o (rep n E.zero)) λcs=>some (undef,⟨Hp.set h.m l ⟨cs,true⟩,h.next⟩)else none else none
 |_=>none
def OJ (ty:Tys)(fr:Fr)(h:Heap)(fl:Nat)(ts:List TypeId)(xs:List Operand):R:=
 match ts,xs with
 |[t],[x]=>ob (elemOf ty t) λE=>ob (evS fr x) λs=>UJ h fl E s
 |_,_=>none
def mM (C:Ctx)(fr:Fr)(h:Heap)(fl:Nat)(f:Operand)(as:List Operand):R:=
 ob (evS fr f) λf=>ob (rE (evA fr) as) λas=>match f with
  | .fn f cs=>C.call f (as++cs.map λp=>.s (.ptr p.1 p.2)) h fl
  |_=>none
def Tabs.lenOf (T:Tabs)(k:Nat):Option Nat:=List.rec Option.none (λp _ ih=>bif aic p.1 k then some p.2 else ih) T.len
def Tabs.H7 (T:Tabs)(k:Nat)(i:N):Option (List S):=List.rec Option.none (λp _ ih=>bif aic p.1 k&&p.2.1.eqv i then some p.2.2 else ih) T.el
def Tabs.EM (T:Tabs)(i:Nat)(c:Int):Option Nat:=List.rec Option.none (λp _ ih=>bif aic p.1 i&&decide (p.2.1=c)then some p.2.2 else ih) T.add
def aaH (op:BinOp)(x y:S):Option Nat:=match op,x,y with
 | .sub,.xi .i64 i,.xi .i64 j=>EY i j Know.sb
 | .add,.xi .i64 i,.int .i64 c=>Oy i c Know.ad
 | .add,.int .i64 c,.xi .i64 i=>Oy i c Know.ad
 | .add,.xi .i64 i,.xi .i64 j=>EY i j Know.xt.sm
 |_,_,_=>none
def a9G (fr:Fr)(op:BinOp)(x y:Operand):Option V:=ob (evS fr x) λx=>ob (evS fr y) λy=>ob (aaH op x y) λk=>vS (.xi .i64 k)
def a6v (T:Tabs)(fr:Fr)(op:BinOp)(x y:Operand):Option V:=
 match op with
 | .add=>ob (evS fr x) λx=>ob (evS fr y) λy=>(match x,y with | .xi .i64 i,.int .i64 c=>ob (T.EM i c) λj=>vS (.xi .i64 j)|_,_=>none)
 |_=>none
def S.a5X (x:S):Option Nat:=match x with | .rv k=>some k|_=>none
def S.a5W (x:S):Option (Nat×N×Nat):=match x with | .pe k i o=>some (k,i,o)|_=>none
def Yy (T:Tabs)(ty:Tys)(fr:Fr)(ts:List TypeId)(xs:List Operand):Option V:=
 match ts,xs with
 |t::_,[x]=>ob (elemOf ty t) λ_=>ob (evS fr x) λx=>ob x.a5X λk=>ob (T.lenOf k) λj=>vS (.xi .i64 j)
 |_,_=>none
def UF (T:Tabs)(ty:Tys)(fr:Fr)(t:TypeId)(x i:Operand):Option V:=
 ob (evS fr x) λx=>ob x.a5X λk=>ob (evS fr i) λi=>ob i.num λn=>ob (T.H7 k n.2) λcs=>ob (elemOf ty t) λE=>bif aic E.size cs.length then vS (.pe k n.2 0)else none
def Ux (ty:Tys)(fr:Fr)(s:TypeId)(x:Operand)(f:Nat):Option V:=
 ob (evS fr x) λx=>ob x.a5W λp=>ob (yK ty s f) λq=>bif q.2.size==0 then none else vS (.pe p.1 p.2.1 (p.2.2+q.1))
def a4M (T:Tabs)(ty:Tys)(fr:Fr)(t:TypeId)(x:Operand):Option V:=
 ob (evS fr x) λx=>ob x.a5W λp=>ob (T.H7 p.1 p.2.1) λcs=>ob (ty t) λU=>ob (ext cs p.2.2 U.size) λc=>ob (U.mk' c) vA
inductive How where
 |p (r:Option V)
 |q (r:R)
 |w (r:R)
 |qw (r:R) (r':R)
 |c (f:Operand) (as:List Operand)
def iG (C:Ctx)(fr:Fr)(h:Heap)(hw:Heap)(fl:Nat)(c:Call)(b:Builtin):How:=
 match b with
 | .append=>.qw (a4e C.ty fr h c) (a3A C.ty fr hw fl c)
 | .clear=>.w (OJ C.ty fr hw fl c.argTypes.toList c.args.toList)
 | .len=>.p (orO (l9 C.ty fr c .len) (Yy C.tb C.ty fr c.argTypes.toList c.args.toList))
 |b=>.p (l9 C.ty fr c b)
def lZ (C:Ctx)(fr:Fr)(h:Heap)(hw:Heap)(fl:Nat)(c:Call)(k:Callee):How:=
 match k with
 | .value f=>.c f c.args.toList
 | .builtin b=>iG C fr h hw fl c b
 | .invoke .. =>.p none
def qI (C:Ctx)(fr:Fr)(h:Heap)(src dst:TypeId)(x:Operand):How:=
 match a3v C.ty fr src dst x with
 |some v=>.p (some v)
 |none=>.q (a9i C.ty fr h src dst x)
def qL (C:Ctx)(fr:Fr)(h:Heap)(t:TypeId)(x:Operand):How:=
 match a4M C.tb C.ty fr t x with
 |some v=>.p (some v)
 |none=>.q (a2v C.ty fr h t x)
def how (C:Ctx)(fr:Fr)(h hw:Heap)(fl:Nat)(o:Op):How:=
 match o with
 | .move x=>.p (ev fr x)
 | .assign x=>.p (ev fr x)
 | .pick c a b=>.p (a3Q fr c a b)
 | .binOp op t x y _=>.p (orO (binOp' C.ty fr op t x y) (orO (a6v C.tb fr op x y) (a9G fr op x y)))
 | .unOp op _ x=>.p (a8K fr op x)
 | .convert src dst x=>qI C fr h src dst x
 | .extract t i=>.p (MQ fr t i)
 | .fieldAddr s x f=>.p (orO (EK C.ty fr s x f) (Ux C.ty fr s x f))
 | .field s x f=>.p (Xb C.ty fr s x f)
 | .indexAddr t x i=>.p (orO (F6 C.ty fr t x i) (UF C.tb C.ty fr t x i))
 | .index t x i=>.p (XK C.ty fr t x i)
 | .slice t x lo hi mx=>.p (orO (Wj C.ty fr t x lo hi mx) (a7I C.ty fr t x lo hi mx))
 | .build t ps=>.p (Xv C.ty fr t ps.toList)
 | .makeFunc fn first captured=>.p (zU fr fn first.toList captured.toList)
 | .nilCheck x=>.p (Jm fr x)
 | .call c=>lZ C fr h hw fl c c.callee
 | .load t x=>qL C fr h t x
 | .alloc t=>.q (a6j C.ty h t)
 | .box _ x=>.q (a8z fr h x)
 | .buildSlice t len ps=>.q (Dt C.ty fr h t len ps.toList)
 | .makeSlice t len cap=>.q (ES C.ty fr h t len cap)
 | .store t x v=>.w (orR (Wv C.ty fr hw fl t x v) (Ry C.ty fr hw fl t x v))
 |_=>.p none
def a9t (x:A):Bool:=x.cells.all λs=>match s with | .ptr .. =>false| .fn .. =>false| .px .. =>false|_=>true
def a9d (C:Ctx)(fr:Fr)(h:Heap)(fl:Nat)(f:Operand)(as:List Operand):R:=
 ob (rE (evA fr) as) λvs=>bif vs.all a9t&&aib fl h.next then orR (mM C fr h h.next f as) (mM C fr h fl f as)else mM C fr h fl f as
def a4c (C:Ctx)(fr:Fr)(h:Heap)(fl:Nat)(w:How):R:=
 match w with
 | .p r=>ob r λv=>some (v,h)
 | .q r=>r
 | .w r=>r
 | .qw r r'=>orR r r'
 | .c f as=>a9d C fr h fl f as
def opr (C:Ctx)(fr:Fr)(h:Heap)(fl:Nat)(o:Op):R:=a4c C fr h fl (how C fr h h fl o)
def J6 (fr:Fr)(d:Option Tmp)(v:V):Fr:=Option.rec fr (λd=>upd fr d v) d
def a9b (v:V):Option Bool:=ob v.isA λx=>ob x.isS S.isBool
def uI (ops:List Oper)(fr:Fr)(j:Nat):Option Bool:=ob (nth ops j) λo=>ob o.dst λd=>ob (nth fr d) a9b
def Xw (v:V):Bool:=match v with | .a (.s (.xe l))=>Option.rec true (λ_=>false) (zX l)| .a (.s (.xa l _))=>Option.rec true (λ_=>false) (OX l)| .any=>true| .a (.s .top)=>true|_=>false
def jC (ops:List Oper)(o:Oper)(fr:Fr):Bool:=
 Option.rec true (λg=>Option.rec true (λq=>Option.rec true (λd=>Option.rec true (λv=>!(Xw v)) (nth fr d)) q.dst) (nth ops g.1)) o.guard
def gV (ops:List Oper)(o:Oper)(fr:Fr):Bool:=
 Option.rec true (λg=>Option.rec false (λb=>b==g.2) (uI ops fr g.1)) o.guard
def Xg (C:Ctx)(fl:Nat)(ops:List Oper)(l:List Oper):St->Option St:=
 List.rec (λs=>some s) (λo _ ih s=>
  bif jC ops o s.fr then
   bif gV ops o s.fr then ob (opr C s.fr s.h fl o.op) λr=>ih ⟨J6 s.fr o.dst r.1,r.2⟩
   else ih ⟨J6 s.fr o.dst undef,s.h⟩
  else none) l
structure RS where
 fr:Fr
 hb:Hp
 ds:List Hp
 an:List Nat
 cl:List Nat
 os:List Oper
 nx:Nat
def jH (an:List Nat)(o:Oper):Nat:=
 o.after.toList.foldl (λs e=>bif Region.binds .any e then Nat.lor (Nat.lor s (Nat.shiftLeft 1 e.on)) ((nth an e.on).getD 0)else s) 0
def oJ (i:Nat)(o:Oper):Bool:=o.after.toList.all λe=>!Region.binds .any e||aif e.on i
def sD (m:Nat):Nat->List Hp->Hp
 |_,[]=>[]
 |i,d::r=>bif aij m i then d++sD m (i+1) r else sD m (i+1) r
def nO (ops:List Oper)(o:Oper):List Tmp:=
 (o.op.operands.toList.filterMap fun| .tmp t=>some t|_=>none)++
  (match o.guard with |some (j,_)=>(match nth ops j with |some g=>(match g.dst with |some d=>[d]|none=>[])|none=>[])|none=>[])
def IE (ops:List Oper)(x y:Oper):Bool:=
 (match x.dst with |some d=>(nO ops y).all (λt=>!(t==d))&&(match y.dst with |some e=>!(d==e)|none=>true)|none=>true)&&
 (match y.dst with |some d=>(nO ops x).all (λt=>!(t==d))|none=>true)
def oO (ops:List Oper)(o:Oper)(c m:Nat):Nat->List Oper->List Nat->Bool
 |i,x::xs,k::ks=>(aij m i||(IE ops x o&&!(c==2&&!(k==0))&&!(k==2&&!(c==0))))&&oO ops o c m (i+1) xs ks
 |_,_,_=>true
def a0l (n:Nat)(m:Hp):Hp:=m.filter λp=>aib n p.1
def endP (ops:List Oper)(s:RS)(o:Oper)(m:Nat)(v:V):Option RS:=
 bif oO ops o 0 m 0 s.os s.cl then some ⟨J6 s.fr o.dst v,s.hb,s.ds++[[]],s.an++[m],s.cl++[0],s.os++[o],s.nx⟩else none
def a1Q (ops:List Oper)(s:RS)(o:Oper)(m:Nat)(r:V×Heap):Option RS:=
 bif oO ops o 1 m 0 s.os s.cl&&aib s.nx r.2.next then some ⟨J6 s.fr o.dst r.1,s.hb,s.ds++[a0l s.nx r.2.m],s.an++[m],s.cl++[1],s.os++[o],r.2.next⟩else none
def endW (ops:List Oper)(s:RS)(o:Oper)(m:Nat)(r:V×Heap):Option RS:=
 bif oO ops o 2 m 0 s.os s.cl&&aib s.nx r.2.next then some ⟨J6 s.fr o.dst r.1,r.2.m,(s.ds++[[]]).map (λ_=>[]),s.an++[m],s.cl++[2],s.os++[o],r.2.next⟩else none
def ad1 (C:Ctx)(fl:Nat)(ops:List Oper)(s:RS)(o:Oper)(m:Nat)(hq hw:Heap)(w:How):Option RS:=
 match w with
 | .p r=>ob r (endP ops s o m)
 | .q r=>ob r (a1Q ops s o m)
 | .w r=>ob r (endW ops s o m)
 | .qw r r'=>Option.rec (ob r' (endW ops s o m)) (a1Q ops s o m) r
 | .c f as=>Option.rec (ob (mM C s.fr hw fl f as) (endW ops s o m)) (a1Q ops s o m) (mM C s.fr hq s.nx f as)
def stepD (C:Ctx)(fl:Nat)(ops:List Oper)(s:RS)(o:Oper)(m:Nat):Option RS:=
 bif oJ s.os.length o&&jC ops o s.fr then
  (bif gV ops o s.fr then
   ad1 C fl ops s o m ⟨sD m 0 s.ds++s.hb,s.nx⟩ ⟨s.ds.flatten++s.hb,s.nx⟩ (how C s.fr ⟨sD m 0 s.ds++s.hb,s.nx⟩ ⟨s.ds.flatten++s.hb,s.nx⟩ fl o.op)
  else endP ops s o m undef)
 else none
def a6i (C:Ctx)(fl:Nat)(ops:List Oper)(l:List Oper):RS->Option RS:=
 List.rec (λs=>some s) (λo _ ih s=>ob (stepD C fl ops s o (jH s.an o)) ih) l
structure Fs where
 rs:RS
 ls:List Nat
 ts:List Nat
def Fa (fr:Fr)(o:Oper):Option Nat:=match o.op with
 | .store _ x _=>ob (evS fr x) λs=>(match s with | .ptr l _=>some l| .px l _ _ _=>some l|_=>none)
 | .call c=>(match c.callee,c.args.toList with
  | .builtin .append,s::_=>ob (evS fr s) λs=>(match s with | .sl l _ _ _ _=>some l|_=>none)
  |_,_=>none)
 |_=>none
def Dj (C:Ctx)(fr:Fr)(h0:Heap)(o:Oper):Option (Nat×V):=match o.op with
 | .load t x=>ob (C.ty t) λT=>ob (vH fr x) λp=>ob (h0.read p.1 p.2 T.size) λcs=>ob (T.mk' cs) λv=>some (p.1,.a v)
 |_=>none
def a7B (ops:List Oper):List Nat:=ops.foldl (λan o=>an++[jH an o]) []
def isW (o:Oper):Bool:=match o.op with | .store .. =>true| .call _=>true|_=>false
def looseAt (an:List Nat)(i:Nat):Nat->List Oper->Bool
 |_,[]=>false
 |j,o::r=>(isW o&&!(aic j i)&&!(bif aif i j then aij ((nth an j).getD 0) i else aij ((nth an i).getD 0) j))||looseAt an i (j+1) r
def Uh (C:Ctx)(fr:Fr)(h0:Heap)(o:Oper)(b:Bool):Option (Nat×V):=bif b then Dj C fr h0 o else none
def RH (cl:List Nat):Nat:=cl.foldl (λ_ k=>k) 0
def a5i (C:Ctx)(fl:Nat)(ops:List Oper)(an:List Nat)(h0:Heap)(s:Fs)(o:Oper)(m:Nat):Option Fs:=
 bif oJ s.rs.os.length o&&jC ops o s.rs.fr then
  (bif gV ops o s.rs.fr then
   Option.rec (ob (stepD C fl ops s.rs o m) λr=>bif RH r.cl==2 then ob (Fa s.rs.fr o) λt=>some ⟨r,s.ls,t::s.ts⟩else some ⟨r,s.ls,s.ts⟩)
    (λp=>ob (endP ops s.rs o m p.2) λr=>some ⟨r,p.1::s.ls,s.ts⟩) (Uh C s.rs.fr h0 o (looseAt an s.rs.os.length 0 ops))
  else ob (stepD C fl ops s.rs o m) λr=>some ⟨r,s.ls,s.ts⟩)
 else none
def a1V (C:Ctx)(fl:Nat)(ops:List Oper)(an:List Nat)(h0:Heap)(l:List Oper):Fs->Option Fs:=
 List.rec (λs=>some s) (λo _ ih s=>ob (a5i C fl ops an h0 s o (jH s.rs.an o)) ih) l
def a3K (C:Ctx)(fl:Nat)(ops:List Oper)(s:St):Option St:=
 ob (a1V C fl ops (a7B ops) s.h ops ⟨⟨s.fr,s.h.m,[],[],[],[],s.h.next⟩,[],[]⟩) λr=>
  bif r.ls.all (λl=>r.ts.all λt=>!(t==l))then some ⟨r.rs.fr,⟨r.rs.ds.flatten++r.rs.hb,r.rs.nx⟩⟩else none
def XW (C:Ctx)(fl:Nat)(ops:List Oper)(s:St):Option St:=
 ob (a6i C fl ops ops ⟨s.fr,s.h.m,[],[],[],[],s.h.next⟩) λr=>some ⟨r.fr,⟨r.ds.flatten++r.hb,r.nx⟩⟩
def orS (r:Option St)(k:Option St):Option St:=Option.rec k some r
def region (C:Ctx)(fl:Nat)(ops:List Oper)(draw:Bool)(s:St):Option St:=
 bif draw then orS (XW C fl ops s) (a3K C fl ops s)else Xg C fl ops ops s
def nrm (s:St):XS:=some (.normal,s)
def RD (r:XS)(k:St->XS):XS:=Option.rec none (λp=>X.rec (k p.2) (λid=>some (.exit id,p.2)) (some (.ret,p.2)) p.1) r
def a0w (id:Nat)(r:XS):XS:=Option.rec none (λp=>X.rec (nrm p.2) (λj=>bif j==id then nrm p.2 else some (.exit j,p.2)) (some (.ret,p.2)) p.1) r
def rounds (f:St->XS)(n:Nat):St->XS:=Nat.rec (λ_=>none) (λ_ ih s=>RD (f s) ih) n
def a8J (c:Option S)(a b:XS):XS:=ob c λx=>ob x.isBool λt=>bif t then a else b
def _root_.Go.Code.tag (c:Code):Nat:=
 Code.rec (motive:=λ_=>Nat) 0 (λid _ _=>id+1) (λ_ _ a b=>bif aic a 0 then b else a) (λ_ _ _ a b=>bif aic a 0 then b else a) (λ_ _ a=>a) (λ_ a=>a) (λ_ _ _ _ _ _=>0) (λ_=>0) (λ_ a=>a) (λ_=>0) (λ_=>0) 0 (λ_=>0) c
def Pg (r k:XS):XS:=Option.rec k some r
def exec (C:Ctx)(fl n:Nat)(c:Code):St->XS:=
 Code.rec (motive:=λ_=>St->XS)
  nrm
  (λ_ ops draw s=>ob (region C fl ops.toList draw s) nrm)
  (λ_ _ ia ib s=>RD (ia s) ib)
  (λc _ _ ia ib s=>a8J (evS s.fr c) (ia s) (ib s))
  (λid _ ib s=>a0w id (ib s))
  (λc ib s=>Pg (C.loop (Code.tag c) fl s) (rounds ib n s))
  (λ_ _ _ _ _ _ _=>none)
  (λid s=>some (.exit id,s))
  (λ_ ib s=>ib s)
  (λ_ s=>nrm s)
  (λ_ _=>none)
  (λs=>some (.ret,s))
  (λ_ _=>none)
  c
def RU (C:Ctx)(s:St)(r:ResultVar):Option A:=
 match r with
 | .tmp t=>ob (nth s.fr t) V.isA
 | .cell x t=>ob (C.ty t) λT=>ob (nth s.fr x) λv=>ob v.isA λy=>ob y.isS λy=>ob y.Rz λp=>ob (s.h.read p.1 p.2 T.size) T.mk'
def resV (l:List A):V:=
 match l with
 |[x]=>.a x
 |l=>.t l
def S.flat (x:S):Bool:=match x with
 | .bool _| .int .. | .str _| .PV| .uQ| .Qu| .ifc| .sle| .xi .. | .xs _| .xe _| .xa .. | .rv _=>true
 |_=>false
def A.flat (x:A):Bool:=x.cells.all S.flat
def S.refs (x:S):List Nat:=match x with | .ptr l _=>[l]| .px l _ _ _=>[l]| .sl l _ _ _ _=>[l]| .fn _ cs=>cs.map λp=>p.1|_=>[]
def Ky (l:Nat):List Nat->Bool:=List.rec false λx _ ih=>aic x l||ih
def SN (m:Hp)(n:Nat):List Nat->List Nat->List Nat:=
 Nat.rec (λ_ seen=>seen) (λ_ ih todo seen=>match todo with
  |[]=>seen
  |l::r=>bif Ky l seen then ih r seen else ih (Option.rec r (λb=>b.cells.flatMap S.refs++r) (Hp.get m l)) (l::seen)) n
def Oz (rs:List A):List Nat:=rs.flatMap λx=>x.cells.flatMap S.refs
def X5 (n:Nat)(rs:List A)(h:Heap):Heap:=
 ⟨h.m.filter (λp=>aif p.1 n||Ky p.1 (SN h.m 1000 (Oz rs) [])),h.next⟩
def bodyEnd (C:Ctx)(fn:Func)(h:Heap)(fl:Nat)(s:St):R:=
 ob (rE (RU C s) fn.results.toList) λrs=>bif aib h.next fl then(bif rs.all A.flat then some (resV rs,h)else some (resV rs,X5 h.next rs s.h))else some (resV rs,s.h)
def body (C:Ctx)(n:Nat)(fn:Func)(args:List A)(h:Heap)(fl:Nat):R:=
 ob fn.body λc=>ob (exec C fl n c ⟨args.map V.a++List.replicate (fn.ntmps-args.length) undef,h⟩) λp=>
  X.rec (bodyEnd C fn h fl p.2) (λ_=>none) (bodyEnd C fn h fl p.2) p.1
def acA (ty:Tys)(n:Nat):TypeId->Bool:=
 Nat.rec (λ_=>false) (λ_ ih t=>Option.rec false (λT=>match T.d with | .one=>true| .int _=>true| .str=>true| .st fs=>fs.all (λp=>ih p.2)| .arr _ e=>ih e|_=>false) (ty t)) n
def a95 (ty:Tys)(F:Func):Bool:=F.resultTypes.toList.all (acA ty 6)
def V.flat (x:V):Bool:=match x with | .a x=>x.flat| .t l=>l.all A.flat| .any=>false
section
variable {β:Type}
def S.force (x:S)(k:S->β):β:=
 match x with
 | .bool b=>k (.bool b)
 | .int a n=>k (.int a n)
 | .str s=>k (.str s)
 | .PV=>k .PV
 | .uQ=>k .uQ
 | .Qu=>k .Qu
 | .xi a i=>k (.xi a i)
 | .xs l=>k (.xs l)
 | .xe l=>k (.xe l)
 | .xa l b=>k (.xa l b)
 | .rv j=>k (.rv j)
 |x=>k x
def SQ (l:List S):(List S->β)->β:=List.rec (λk=>k []) (λx _ ih k=>x.force λx=>ih λt=>k (x::t)) l
def A.force (x:A)(k:A->β):β:=match x with | .s x=>x.force λx=>k (.s x)| .g l=>SQ l λl=>k (.g l)
def V5 (l:List A):(List A->β)->β:=List.rec (λk=>k []) (λx _ ih k=>x.force λx=>ih λt=>k (x::t)) l
end
def Qb (C:Ctx)(n:Nat)(F:Func)(args:List A)(h:Heap)(fl:Nat):R:=
 bif a95 C.ty F&&args.all A.flat then V5 args λargs=>ob (body C n F args ⟨[],0⟩ 0) λp=>bif p.1.flat then some (p.1,h)else none
 else body C n F args h fl
def qR (ty:Tys)(fn:FuncId->Option Func)(lib:aU)(tb:Tabs)(loops:FuncId->Loops)(n:Nat)(d:Nat):aU:=
 Nat.rec (λ_ _ _ _=>none) (λ_ ih f args h fl=>orR (lib f args h fl) (ob (fn f) λF=>Qb ⟨ty,ih,tb,loops f⟩ n F args h fl)) d
def runs (ty:Tys)(fn:FuncId->Option Func)(lib:aU)(n:Nat)(d:Nat):aU:=qR ty fn lib Tabs.nought (λ_ _ _ _=>none) n d
end
end
def cellOf (v:Value):Option S:=match ofValue v with |some (.s x)=>some x|_=>none
noncomputable def zeroCells (v:Value):Option (List S):=rE cellOf v.cells.toList
def dOf:TypeDesc->D
 | .bool=>.one
 | .int k=>.int k
 | .string=>.str
 | .pointer e=>.ptr e
 | .slice e=>.sl e
 | .array n e=>.arr n e
 | .struct fs=>.st (fs.toList.map λf=>(f.offset,f.type))
 | .interface _=>.ifc
 |_=>.other
def Xj (P:Program)(t:TypeId)(d:TypeDesc):Bool:=
 match d with
 | .struct fs=>fs.toList.all (λf=>!(f.name== "_"))&&!P.stoodInHeld t&&!P.eqGuardType P.depth t
 | .array .. =>!P.eqGuardType P.depth t
 |_=>false
noncomputable def oq (P:Program)(t:TypeId):Option Ty:=
 match P.toTables.info? t,P.underlying t with
 |some i,some d=>match i.zero with
  |some z=>match zeroCells z with
   |some c=>some ⟨dOf d,i.size,i.bytes,c,Xj P t d⟩
   |none=>none
  |none=>none
 |_,_=>none
def pJ (P:Program)(f:FuncId):Option Func:=P.funcs[f]?
def au {α β:Type}(R:α->β->Prop):List α->List β->Prop
 |[],[]=>True
 |x::xs,y::ys=>R x y/\au R xs ys
 |_,_=>False
section
variable {α β:Type} {R R':α->β->Prop}
theorem au.len:∀{xs:List α} {ys:List β},au R xs ys->xs.length=ys.length
 |[],[],_=>rfl
 |_::_,_::_,h=>by simp[au.len h.2]
 |[],_::_,h=>h.elim
 |_::_,[],h=>h.elim
theorem au.imp (f:∀x y,R x y->R' x y):∀{xs:List α} {ys:List β},au R xs ys->au R' xs ys
 |[],[],_=>trivial
 |_::_,_::_,h=>⟨f _ _ h.1,au.imp f h.2⟩
 |[],_::_,h=>h.elim
 |_::_,[],h=>h.elim
theorem au.app:∀{xs xs':List α} {ys ys':List β},au R xs ys->au R xs' ys'->au R (xs++xs') (ys++ys')
 |[],_,[],_,_,k=>k
 |_::_,_,_::_,_,h,k=>⟨h.1,au.app h.2 k⟩
 |[],_,_::_,_,h,_=>h.elim
 |_::_,_,[],_,h,_=>h.elim
theorem au.drop:∀(n:Nat) {xs:List α} {ys:List β},au R xs ys->au R (xs.drop n) (ys.drop n)
 |0,_,_,h=>h
 |_+1,[],[],h=>h
 |n+1,_::_,_::_,h=>by simpa using au.drop n h.2
 |_+1,[],_::_,h=>h.elim
 |_+1,_::_,[],h=>h.elim
theorem au.take:∀(n:Nat) {xs:List α} {ys:List β},au R xs ys->au R (xs.take n) (ys.take n)
 |0,_,_,_=>by simp[au]
 |_+1,[],[],h=>h
 |n+1,_::_,_::_,h=>by simp only[ahh];exact⟨h.1,au.take n h.2⟩
 |_+1,[],_::_,h=>h.elim
 |_+1,_::_,[],h=>h.elim
theorem oN (x:α)(t:List α):nth (x::t) 0=some x:=rfl
theorem oK (x:α)(t:List α)(n:Nat):nth (x::t) (n+1)=nth t n:=rfl
theorem Bh (n:Nat):nth ([]:List α) n=none:=rfl
theorem aI:∀(l:List α) (n:Nat),nth l n=l[n]?
 |[],_=>by simp[Bh]
 |x::t,0=>by simp[oN]
 |x::t,n+1=>by simp[oK,aI t n]
theorem KA (x y:α)(t:List α):upd (x::t) 0 y=y::t:=rfl
theorem Kv (x y:α)(t:List α)(n:Nat):upd (x::t) (n+1) y=x::upd t n y:=rfl
theorem a6d (n:Nat)(y:α):upd ([]:List α) n y=[]:=rfl
theorem Jl:∀(l:List α) (n:Nat) (y:α),upd l n y=l.set n y
 |[],_,_=>by simp[a6d]
 |x::t,0,_=>by simp[KA]
 |x::t,n+1,_=>by simp[Kv,Jl t n]
theorem au.nth:∀{xs:List α} {ys:List β} {n:Nat} {x:α},au R xs ys->nth xs n=some x->∃y,ys[n]? =some y/\R x y
 |[],_,_,_,_,h=>by simp[Bh]at h
 |_::_,[],_,_,h,_=>h.elim
 |a::t,b::u,0,x,h,k=>by simp[oN]at k;subst k;exact⟨b,rfl,h.1⟩
 |a::t,b::u,n+1,x,h,k=>by rw[oK]at k;simpa using au.nth h.2 k
theorem au.set:∀{xs:List α} {ys:List β} (n:Nat) {x:α} {y:β},au R xs ys->R x y->au R (xs.set n x) (ys.set n y)
 |[],[],_,_,_,h,_=>by simpa using h
 |_::_,[],_,_,_,h,_=>h.elim
 |[],_::_,_,_,_,h,_=>h.elim
 |a::t,b::u,0,x,y,h,k=>⟨k,h.2⟩
 |a::t,b::u,n+1,x,y,h,k=>⟨h.1,au.set n h.2 k⟩
theorem Sv:∀(l:List α) (n:Nat) (r:List α),taken l n=some r->n<=l.length/\r=l.take n
 |[],0,r,h=>by cases h;simp
 |[],n+1,r,h=>by cases h
 |x::t,0,r,h=>by cases h;simp
 |x::t,n+1,r,h=>by
  have h':(Option.rec none (λr=>some (x::r)) (taken t n):Option (List α))=some r:=h
  cases hk:taken t n with
  |none=>rw[hk]at h';simp at h'
  |some q=>
   rw[hk]at h'
   simp at h'
   obtain⟨h1,rfl⟩:=Sv t n q hk
   subst h'
   simp[h1]
theorem ext_eq {l:List α}{o n:Nat}{r:List α}(h:ext l o n=some r):(n=0\/o+n<=l.length)/\r=(l.drop o).take n:=by
 obtain⟨h1,h2⟩:=Sv _ _ _ h
 refine⟨?_,h2⟩
 simp at h1
 omega
theorem Y0:∀(l ys r:List α),over l ys=some r->ys.length<=l.length/\r=ys++l.drop ys.length
 |[],[],r,h=>by cases h;simp
 |[],y::ys,r,h=>by cases h
 |x::t,[],r,h=>by cases h;simp
 |x::t,y::ys,r,h=>by
  have h':(Option.rec none (λr=>some (y::r)) (over t ys):Option (List α))=some r:=h
  cases hk:over t ys with
  |none=>rw[hk]at h';simp at h'
  |some q=>
   rw[hk]at h'
   simp at h'
   obtain⟨h1,rfl⟩:=Y0 t ys q hk
   subst h'
   simp[h1]
theorem UK {l:List α}{o:Nat}{ys r:List α}(h:lay l o ys=some r):(ys=[]\/o+ys.length<=l.length)/\r=l.take o++(ys++l.drop (o+ys.length)):=by
 have h':(Option.rec none (λr=>some (l.take o++r)) (over (l.drop o) ys):Option (List α))=some r:=h
 cases hk:over (l.drop o) ys with
 |none=>rw[hk]at h';simp at h'
 |some q=>
  rw[hk]at h'
  simp at h'
  obtain⟨h1,rfl⟩:=Y0 _ _ _ hk
  subst h'
  simp at h1
  refine⟨?_,by simp[List.drop_drop]⟩
  cases ys with
  |nil=>exact .inl rfl
  |cons y ys=>right;simp at h1 |-;omega
theorem a2c (f:α->Option β):rE f []=some []:=rfl
theorem lQ (f:α->Option β)(x:α)(t:List α):rE f (x::t)=ob (f x) λy=>ob (rE f t) λr=>some (y::r):=rfl
theorem aj {x:Option α}{f:α->Option β}{y:β}(h:ob x f=some y):∃a,x=some a/\f a=some y:=by
 cases x with
 |none=>simp[ob]at h
 |some a=>exact⟨a,rfl,h⟩
@[simp] theorem abp (f : α -> Option β) : ob none f = none := rfl
@[simp] theorem lW (a : α)(f : α -> Option β) : ob (some a) f = f a := rfl
theorem Jb {f:α->Option β}:∀{xs:List α} {ys:List β},rE f xs=some ys->au (λx y=>f x=some y) xs ys
 |[],ys,h=>by simp[a2c]at h;subst h;trivial
 |x::t,ys,h=>by
  rw[lQ]at h
  obtain⟨y,hy,h⟩:=aj h
  obtain⟨r,hr,h⟩:=aj h
  simp at h
  subst h
  exact⟨hy,Jb hr⟩
end
def bW (sig:Nat->List UInt8):List Nat->List UInt8
 |[]=>[]
 |n::r=>(bif aif n 256 then[UInt8.ofNat n]else sig (n-256))++bW sig r
def nI (rho:Nat->Int)(a:N):Int:=match a with | .c n=>n| .x i=>rho i
def ac3 (l:List UInt8)(a:Int)(b:Option Int)(m:List UInt8):Prop:=
 ∃p q:Nat,a=p/\(match b with |some e=>e=q|none=>q=l.length)/\p<=q/\q<=l.length/\(l.take q).drop p=m
def S.i64 (rho:Nat->Int)(x:S):Option Int:=match x with | .int .i64 n=>some n| .xi .i64 i=>some (rho i)|_=>none
structure vK (T:x9)(rho:Nat->Int):Prop where
 lf:∀i j d,(i,j,d)∈T.lf->(rho d=1↔rho i<rho j)
 sm:∀i j k,(i,j,k)∈T.sm->rho i+rho j=rho k/\IntKind.i64.min<=rho k/\rho k<=IntKind.i64.max
 ld:∀cs i m,(cs,i,m)∈T.ld->∀(j:Nat) c,cs[j]? =some c->rho i=j->c.i64 rho=some (rho m)
 sr:∀cs i m ds,(cs,i,m,ds)∈T.sr->ds.length=cs.length/\∀(j:Nat) c d,cs[j]? =some c->ds[j]? =some d->∃a,c.i64 rho=some a/\d.i64 rho=some (if rho i=j then rho m else a)
 eq:∀i j d,(i,j,d)∈T.eq->(rho d=1↔rho i=rho j)
theorem vK.nought (rho:Nat->Int):vK x9.nought rho:=⟨λ_ _ _ h=>(by cases h),λ_ _ _ h=>(by cases h),λ_ _ _ h=>(by cases h),λ_ _ _ _ h=>(by cases h),λ_ _ _ h=>(by cases h)⟩
structure aC (K:Know)(rho:Nat->Int)(sig:Nat->List UInt8):Prop where
 iv:∀i p,nth K.iv i=some p->p.1<=rho i/\rho i<=p.2
 ne:∀i j,jO K.ne i j=true->rho i≠rho j
 lt:∀i j,jO K.lt i j=true->rho i<rho j
 mx:∀i m,nth K.mx i=some m->(sig i).length<=m
 sq:∀a b r,(a,b,r)∈K.sq->decide (bW sig a=bW sig b)=r
 ln:∀a j,(a,j)∈K.ln->rho j=(bW sig a).length
 cf:∀m,m∈K.cf->(m.all λp=>decide (rho p.1=p.2))=false
 df:∀i j d,(i,j,d)∈K.df->(rho i=rho j↔rho d=0)
 sx:∀a b l,(a,b,l)∈K.sx->decide (bW sig a=bW sig b)=l.all λp=>decide (rho p.1=p.2)
 ct:∀l a b m,(l,a,b,m)∈K.ct->ac3 (bW sig l) (nI rho a) (b.map (nI rho)) (bW sig m)
 sb:∀i j k,(i,j,k)∈K.sb->rho i-rho j=rho k/\IntKind.i64.min<=rho k/\rho k<=IntKind.i64.max
 ad:∀i c k,(i,c,k)∈K.ad->rho i+c=rho k/\IntKind.i64.min<=rho k/\rho k<=IntKind.i64.max
 xt:vK K.xt rho
theorem aC.nought (rho:Nat->Int)(sig:Nat->List UInt8):aC Know.nought rho sig:=
 ⟨λi p h=>(by cases h),λi j h=>(by cases h),λi j h=>(by cases h),λi m h=>(by cases h),λa b r h=>(by cases h),λa j h=>(by cases h),λm h=>(by cases h),λ_ _ _ h=>(by cases h),λ_ _ _ h=>(by cases h),λ_ _ _ _ h=>(by cases h),λ_ _ _ h=>(by cases h),λ_ _ _ h=>(by cases h),vK.nought rho⟩
structure a5n where
 v:Value
 els:List (List Value)
class Base extends Know where
 nb:Nat
 g:Nat->Option Obj
 rho:Nat->Int
 sig:Nat->List UInt8
 ok:aC toKnow rho sig
 lst:Nat->a5n:=λ_=>⟨.pointer none,[]⟩
variable [Base]
def NV (a:N):Int:=match a with | .c n=>n| .x i=>Base.rho i
def Here (w:World):Prop:=∀b,b<Base.nb->w.heap[b]? =Base.g b
def aaj (k:Nat)(i:N)(b off:Nat)(el:List Value):Prop:=
 (Base.lst k).els[(NV i).toNat]? =some el/\∀f u,el[f]? =some u->∀w:World,Here w->w.cell? ⟨b,off+f,none⟩=some u
structure Ren where
 ok:Nat->Prop
 blk:Nat->Nat
 off:Nat->Nat
 cap:Nat->Nat
structure Ren.le (r r':Ren):Prop where
 n:∀l,r.ok l->r'.ok l
 blk:∀l,r.ok l->r'.blk l=r.blk l
 off:∀l,r.ok l->r'.off l=r.off l
 cap:∀l,r.ok l->r'.cap l=r.cap l
theorem Ren.le.refl (r:Ren):r.le r:=⟨λ_ h=>h,λ_ _=>rfl,λ_ _=>rfl,λ_ _=>rfl⟩
theorem Ren.le.trans {a b c:Ren}(h:a.le b)(k:b.le c):a.le c:=
 ⟨λl hl=>k.n l (h.n l hl),λl hl=>(k.blk l (h.n l hl)).trans (h.blk l hl),λl hl=>(k.off l (h.n l hl)).trans (h.off l hl),λl hl=>(k.cap l (h.n l hl)).trans (h.cap l hl)⟩
def Ren.at (r:Ren)(l o:Nat):Addr:=⟨r.blk l,r.off l+o,none⟩
theorem Ren.le.at {r r':Ren}(h:r.le r'){l:Nat}(hl:r.ok l)(o:Nat):r'.at l o=r.at l o:=by simp[Ren.at,h.blk l hl,h.off l hl]
def VS (r:Ren)(x:S)(v:Value):Prop:=
 match x with
 | .bool b=>v=.bool b
 | .int k n=>v=.int k n
 | .str s=>v=.string ⟨s.toArray⟩
 | .ptr l o=>r.ok l/\v=.pointer (some (r.at l o))
 | .PV=>v=.pointer none
 | .sl l o n z none=>r.ok l/\(0<z/\(r.cap l-o)/z<=maxLen)/\n<=(r.cap l-o)/z/\v=.slice (some (r.at l o)) n ((r.cap l-o)/z)
 | .sl l o n z (some c)=>r.ok l/\0<z/\n<=c/\v=.slice (some (r.at l o)) n c
 | .sle=>∃a c,v=.slice (some a) 0 c
 | .uQ=>v=.slice none 0 0
 | .fn f cs=>(∀p∈cs,r.ok p.1)/\v=.func (.func f) #[] (cs.map λp=>.pointer (some (r.at p.1 p.2))).toArray
 | .Qu=>v=.nilIface
 | .xi k i=>v=.int k (Base.rho i)
 | .xs l=>v=.string ⟨(bW Base.sig l).toArray⟩
 | .xe l=>v=.bool (l.any λp=>decide (Base.rho p.1=p.2))
 | .xa l b=>v=.bool ((l.all λp=>decide (Base.rho p.1=p.2))==b)
 | .px l o n i=>r.ok l/\0<=Base.rho i/\Base.rho i<n/\v=.pointer (some (r.at l (o+(Base.rho i).toNat)))
 | .ifc=>∃t x,v=.iface t x
 | .rv k=>∃A n c,(Base.lst k).v=.slice A n c/\v=.slice A n c
 | .pe k i o=>∃b off el,aaj k i b off el/\v=.pointer (some ⟨b,off+o,none⟩)
 | .top=>v.oneCell'=true
def VA (r:Ren)(x:A)(v:Value):Prop:=
 match x with
 | .s x=>VS r x v
 | .g l=>∃vs:List Value,v=.agg vs.toArray/\au (VS r) l vs
def VV (r:Ren)(x:V)(v:Value):Prop:=
 match x with
 | .a x=>VA r x v
 | .t l=>∃vs:List Value,v=.tuple vs.toArray/\au (VA r) l vs
 | .any=>True
theorem VS.mono {r r':Ren}(h:r.le r'){x:S}{v:Value}(k:VS r x v):VS r' x v:=by
 cases x with
 |ptr l o=>exact⟨h.n _ k.1,by rw[h.at k.1];exact k.2⟩
 |sl l o n z c=>
  cases c with
  |none=>exact⟨h.n _ k.1,⟨k.2.1.1,by rw[h.cap l k.1];exact k.2.1.2⟩,by rw[h.cap l k.1];exact k.2.2.1,by rw[h.cap l k.1,h.at k.1];exact k.2.2.2⟩
  |some c=>exact⟨h.n _ k.1,k.2.1,k.2.2.1,by rw[h.at k.1];exact k.2.2.2⟩
 |px l o n i=>exact⟨h.n _ k.1,k.2.1,k.2.2.1,by rw[h.at k.1];exact k.2.2.2⟩
 |fn f cs=>
  refine⟨λp hp=>h.n _ (k.1 p hp),?_⟩
  rw[k.2]
  congr 2
  exact agZ λp hp=>by rw[h.at (k.1 p hp)]
 |_=>exact k
theorem VA.mono {r r':Ren}(h:r.le r'){x:A}{v:Value}(k:VA r x v):VA r' x v:=by
 cases x with
 |s x=>exact VS.mono h k
 |g l=>obtain⟨vs,e,a⟩:=k;exact⟨vs,e,a.imp λ_ _=>VS.mono h⟩
theorem VV.mono {r r':Ren}(h:r.le r'){x:V}{v:Value}(k:VV r x v):VV r' x v:=by
 cases x with
 |a x=>exact VA.mono h k
 |t l=>obtain⟨vs,e,a⟩:=k;exact⟨vs,e,a.imp λ_ _=>VA.mono h⟩
 |any=>trivial
theorem VS.one {r:Ren}{x:S}{v:Value}(k:VS r x v):v.oneCell'=true:=by
 cases x with
 |ptr l o=>rw[k.2];rfl
 |sl l o n z c=>cases c with
  |none=>rw[k.2.2.2];rfl
  |some c=>rw[k.2.2.2];rfl
 |fn f cs=>rw[k.2];rfl
 |px l o n i=>rw[k.2.2.2];rfl
 |sle=>obtain⟨a,c,e⟩:=k;rw[e];rfl
 |ifc=>obtain⟨a,c,e⟩:=k;rw[e];rfl
 |rv j=>obtain⟨A,n,c,_,e⟩:=k;rw[e];rfl
 |pe j i o=>obtain⟨b,off,el,_,e⟩:=k;rw[e];rfl
 |top=>exact k
 |_=>cases k;rfl
theorem VA.cells {r:Ren}{x:A}{v:Value}(k:VA r x v):au (VS r) x.cells v.cells.toList:=by
 cases x with
 |s x=>
  have h1:=VS.one k
  have:v.cells=#[v]:=by cases v<;>simp_all [Value.cells,Value.oneCell']
  rw[this]
  exact⟨k,trivial⟩
 |g l=>obtain⟨vs,e,a⟩:=k;subst e;simpa[Value.cells,A.cells]using a
theorem VS.undef {r:Ren}:VV r undef Go.undef:=⟨[],rfl,trivial⟩
structure HR (m:Nat->Option Blk)(r:Ren)(B:Nat)(w:World):Prop where
 dom:∀l b,m l=some b->r.ok l
 own:∀l b,m l=some b->b.own=true->B<=r.blk l/\r.off l=0/\∃C T fz,w.heap[r.blk l]? =some (.cells C T fz)/\C.size=r.cap l/\
  (∀i,i<=C.size->(fz.1<=i&&i<fz.2)=false)/\∀i x,nth b.cells i=some x->∃u,C[i]? =some u/\VS r x u
 ro:∀l b,m l=some b->b.own=false->r.blk l<B/\∀i x,nth b.cells i=some x->∃u,w.cell? (r.at l i)=some u/\VS r x u
 inj:∀l b l' b',m l=some b->b.own=true->m l'=some b'->b'.own=true->r.blk l=r.blk l'->l=l'
 nb:Base.nb<=B
 z:∀b,b<Base.nb->w.heap[b]? =Base.g b
theorem HR.cell {m:Nat->Option Blk}{r:Ren}{B:Nat}{w:World}(h:HR m r B w){l:Nat}{b:Blk}(hb:m l=some b){i:Nat}{x:S}(hx:nth b.cells i=some x):∃u,w.cell? (r.at l i)=some u/\VS r x u:=by
 cases ho:b.own with
 |false=>exact(h.ro l b hb ho).2 i x hx
 |true=>
  obtain⟨_,hz,C,T,fz,hc,_,_,hv⟩:=h.own l b hb ho
  obtain⟨u,hu,hxu⟩:=hv i x hx
  exact⟨u,by simp[Ren.at,World.cell?,hc,hz,hu],hxu⟩
structure Adv (fl:Nat)(h:Heap)(r:Ren)(w:World)(h':Heap)(r':Ren)(w':World):Prop where
 le:r.le r'
 nn:h.next<=h'.next
 okn:∀l,r'.ok l->r.ok l\/h.next<=l
 os:w'.os=w.os
 tape:w'.tape=w.tape
 output:w'.output=w.output
 size:w.heap.size<=w'.heap.size
 frame:∀b,b<w.heap.size->(∀l k,h.get l=some k->k.own=true->fl<=l->r.blk l≠b)->w'.heap[b]? =w.heap[b]?
 keep:∀l,l<h.next->l<fl->h'.get l=h.get l
 old:∀l b',l<h.next->h'.get l=some b'->∃b,h.get l=some b/\b.own=b'.own
 fresh:∀l b',h.next<=l->h'.get l=some b'->b'.own=true/\(w.heap.size<=r'.blk l\/∃l0 b0,h.get l0=some b0/\b0.own=true/\fl<=l0/\r'.blk l=r.blk l0)
structure Inv (h:Heap)(r:Ren)(B:Nat)(w:World):Prop where
 n:∀l,r.ok l->l<h.next
 b:B<=w.heap.size
 hr:HR h.get r B w
theorem Adv.refl (fl:Nat){h:Heap}{r:Ren}{B:Nat}{w:World}(i:Inv h r B w):Adv fl h r w h r w:=
 ⟨Ren.le.refl r,aeM _,λ_ h=>.inl h,rfl,rfl,rfl,aeM _,λ_ _ _=>rfl,λ_ _ _=>rfl,λ_ b' _ h=>⟨b',h,rfl⟩,λl b' hl hb=>absurd (i.n l (i.hr.dom l b' hb)) (Nat.not_lt.2 hl)⟩
theorem Adv.trans {fl B:Nat}{m m' m'':Heap}{r r' r'':Ren}{w w' w'':World}(i:Inv m r B w)(i':Inv m' r' B w')(h:Adv fl m r w m' r' w')(k:Adv fl m' r' w' m'' r'' w''):Adv fl m r w m'' r'' w'' where
 le:=h.le.trans k.le
 nn:=afv h.nn k.nn
 okn l hl:=by
  rcases k.okn l hl with g|g
  ·exact h.okn l g
  ·exact .inr (afv h.nn g)
 os:=k.os.trans h.os
 tape:=k.tape.trans h.tape
 output:=k.output.trans h.output
 size:=afv h.size k.size
 frame b hb hno:=by
  rw[k.frame b (afe hb h.size) ?_,h.frame b hb hno]
  intro l c hc ho hfl he
  by_cases hl:l<m.next
  ·obtain⟨c',hc',ho'⟩:=h.old l c hl hc
   rw[h.le.blk l (i.hr.dom l c' hc')]at he
   exact hno l c' hc' (ho'.trans ho) hfl he
  ·rcases(h.fresh l c (ag2 hl) hc).2 with hs|⟨l0,b0,h0,o0,f0,e0⟩
   ·omega
   ·exact hno l0 b0 h0 o0 f0 (e0.symm.trans he)
 keep l hl hfl:=by rw[k.keep l (afe hl h.nn) hfl,h.keep l hl hfl]
 old l b' hl hb:=by
  obtain⟨c,hc,oc⟩:=k.old l b' (afe hl h.nn) hb
  obtain⟨d,hd,od⟩:=h.old l c hl hc
  exact⟨d,hd,od.trans oc⟩
 fresh l b' hl hb:=by
  by_cases hl':l<m'.next
  ·obtain⟨c,hc,oc⟩:=k.old l b' hl' hb
   rw[k.le.blk l (i'.hr.dom l c hc),<-oc]
   exact h.fresh l c hl hc
  ·obtain⟨ho,hh⟩:=k.fresh l b' (ag2 hl') hb
   refine⟨ho,?_⟩
   rcases hh with hs|⟨l0,b0,h0,o0,f0,e0⟩
   ·exact .inl (afv h.size hs)
   ·by_cases h00:l0<m.next
    ·obtain⟨c,hc,oc⟩:=h.old l0 b0 h00 h0
     exact .inr ⟨l0,c,hc,oc.trans o0,f0,by rw[e0,h.le.blk l0 (i.hr.dom l0 c hc)]⟩
    ·rcases(h.fresh l0 b0 (ag2 h00) h0).2 with hs|⟨l1,b1,h1,o1,f1,e1⟩
     ·exact .inl (by rw[e0];exact hs)
     ·exact .inr ⟨l1,b1,h1,o1,f1,by rw[e0,e1]⟩
end Am
namespace Am
variable [Base]
def eY (P:Program)(ty:Tys):Prop:=∀t T,ty t=some T->∃i d z,P.toTables.info? t=some i/\P.underlying t=some d/\i.zero=some z/\
 T.d=dOf d/\T.size=i.size/\T.bytes=i.bytes/\T.cmp=Xj P t d/\∀r,au (VS r) T.zero z.cells.toList
theorem Y9 {v:Value}{s:S}(h:cellOf v=some s)(r:Ren):VS r s v:=by
 unfold cellOf ofValue at h
 split at h
 ·rename_i x hx
  simp at h
  subst h
  split at hx<;>simp at hx<;>subst hx<;>simp[VS]
 ·simp at h
theorem Uf {v:Value}{x:A}(h:ofValue v=some x)(r:Ren):VA r x v:=by
 unfold ofValue at h
 split at h<;>simp at h<;>subst h<;>simp[VA,VS]
theorem yJ (P:Program):eY P (oq P):=by
 intro t T h
 unfold oq at h
 split at h
 ·rename_i i d hi hd
  split at h
  ·rename_i z hz
   split at h
   ·rename_i c hc
    simp at h
    subst h
    refine⟨i,d,z,hi,hd,hz,rfl,rfl,rfl,rfl,λr=>?_⟩
    have:=Jb hc
    clear hc hz
    generalize z.cells.toList=l at this
    induction c generalizing l with
    |nil=>cases l<;>first |trivial|exact this.elim
    |cons x c ih=>cases l with
     |nil=>exact this.elim
     |cons y l=>exact⟨Y9 this.1 r,ih l this.2⟩
   ·simp at h
  ·simp at h
 ·simp at h
def FR (r:Ren)(fr:Fr)(a:Act):Prop:=au (VV r) fr a.tmps.toList
theorem JD {r:Ren}{fr:Fr}{a:Act}(h:FR r fr a){x:Operand}{v:V}(k:ev fr x=some v):VV r v (a.eval x):=by
 cases x with
 |tmp t=>
  obtain⟨u,hu,hv⟩:=au.nth h k
  have:a.tmps.getD t Go.undef=u:=by
   simp at hu
   obtain⟨h1,h2⟩:=aeN.1 hu
   simp[Array.getD,h1,h2]
  rw[Act.eval,this]
  exact hv
 |const v'=>
  obtain⟨y,hy,hv⟩:=aj (show ob (ofValue v') vA=some v from k)
  simp[vA]at hv
  subst hv
  exact Uf hy r
 |global g=>cases k
 |func f=>
  cases k
  exact⟨by simp,by simp[Act.eval]⟩
theorem qW {r:Ren}{fr:Fr}{a:Act}(h:FR r fr a){x:Operand}{v:A}(k:evA fr x=some v):VA r v (a.eval x):=by
 obtain⟨y,hy,hv⟩:=aj k
 cases y with
 |a y=>cases hv;exact JD h hy
 |t l=>cases hv
 |any=>cases hv
theorem fQ {r:Ren}{fr:Fr}{a:Act}(h:FR r fr a){x:Operand}{v:S}(k:evS fr x=some v):VS r v (a.eval x):=by
 obtain⟨y,hy,hv⟩:=aj k
 cases y with
 |s y=>cases hv;exact qW h hy
 |g l=>cases hv
theorem BJ {r:Ren}{fr:Fr}{a:Act}(h:FR r fr a){x:Operand}{n:Int}(k:yu fr x=some n):∃q,a.eval x=.int q n:=by
 obtain⟨y,hy,hv⟩:=aj k
 have:=fQ h hy
 unfold S.isInt at hv
 split at hv<;>simp at hv
 subst hv
 exact⟨_,this⟩
theorem rG {r:Ren}{fr:Fr}{a:Act}(h:FR r fr a){x:Operand}{p:Nat×Nat}(k:vH fr x=some p):r.ok p.1/\a.eval x=.pointer (some (r.at p.1 p.2)):=by
 obtain⟨y,hy,hv⟩:=aj k
 have:=fQ h hy
 unfold S.Rz at hv
 split at hv<;>simp at hv
 subst hv
 exact this
theorem FR.put {r:Ren}{fr:Fr}{a:Act}(h:FR r fr a)(d:Option Tmp){v:V}{u:Value}(k:VV r v u):FR r (J6 fr d v) (a.put d u):=by
 cases d with
 |none=>exact h
 |some d=>
  show au (VV r) (upd fr d v) (a.tmps.setIfInBounds d u).toList
  rw[Jl,agy]
  exact au.set d h k
theorem FR.mono {r r':Ren}(h:r.le r'){fr:Fr}{a:Act}(k:FR r fr a):FR r' fr a:=au.imp (λ_ _=>VV.mono h) k
section
variable {P:Program} {ty:Tys}
theorem FY {d:TypeDesc}{k:IntKind}(h:dOf d=.int k):d=.int k:=by cases d<;>simp_all [dOf]
theorem WW {d:TypeDesc}(h:dOf d=.one):d=.bool:=by cases d<;>simp_all [dOf]
theorem wE {d:TypeDesc}(h:dOf d=.str):d=.string:=by cases d<;>simp_all [dOf]
theorem a6N {d:TypeDesc}{e:TypeId}(h:dOf d=.ptr e):d=.pointer e:=by cases d<;>simp_all [dOf]
theorem Uo {d:TypeDesc}{e:TypeId}(h:dOf d=.sl e):d=.slice e:=by cases d<;>simp_all [dOf]
theorem G8 {d:TypeDesc}{n:Nat}{e:TypeId}(h:dOf d=.arr n e):d=.array n e:=by cases d<;>simp_all [dOf]
theorem a6U {d:TypeDesc}(h:dOf d=.ifc):∃m,d=.interface m:=by cases d<;>simp_all [dOf]
theorem TU {d:TypeDesc}{fs:List (Nat×TypeId)}(h:dOf d=.st fs):∃F,d=.struct F/\fs=F.toList.map λf=>(f.offset,f.type):=by
 cases d<;>simp_all [dOf]
end
section
variable {P:Program} {w:World}
theorem Hy {op:BinOp}{k:IntKind}{x y:Int}{s:S}(t:TypeId)(h:wU op k x y=some s)(r:Ren):∃u,(binOp op t (.int k x) (.int k y)).run P w=.ok u w/\VS r s u:=by
 cases op<;>simp only[wU]at h<;>(first |(cases h;done)|skip)<;>(try(cases h;exact⟨_,by simp[binOp,Op.intArith,Op.intBits,Op.intCmp,bits],rfl⟩))
 ·unfold quo at h
  cases hb:(y==0)<;>simp only[hb,aeW,aeS]at h
  ·cases h
   have h0:y≠0:=by simpa using hb
   exact⟨_,by simp[binOp,Op.intDiv,h0],rfl⟩
  ·cases h
 ·unfold rem at h
  cases hb:(y==0)<;>simp only[hb,aeW,aeS]at h
  ·cases h
   have h0:y≠0:=by simpa using hb
   exact⟨_,by simp[binOp,Op.intDiv,h0],rfl⟩
  ·cases h
theorem ZX {op:BinOp}{k k':IntKind}{x y:Int}{s:S}(t:TypeId)(h:Ub op k x k' y=some s)(r:Ren):∃u,(binOp op t (.int k x) (.int k' y)).run P w=.ok u w/\VS r s u:=by
 have rest:(bif k==k' then wU op k x y else none)=some s->∃u,(binOp op t (.int k x) (.int k' y)).run P w=.ok u w/\VS r s u:=λhr=>by
  clear h
  cases hk:(k==k')<;>simp only[hk,aeW,aeS]at hr
  ·cases hr
  ·obtain rfl:k=k':=by simpa using hk
   exact Hy t hr r
 cases op<;>simp only[Ub]at h<;>(first |(exact rest h)|skip)
 ·unfold shl at h
  cases hb:decide (y<0)<;>simp only[hb,aeW,aeS]at h
  ·cases h
   have h0:¬y<0:=by simpa using hb
   exact⟨_,by simp[binOp,Op.shift,h0],rfl⟩
  ·cases h
 ·unfold shr at h
  cases hb:decide (y<0)<;>simp only[hb,aeW,aeS]at h
  ·cases h
   have h0:¬y<0:=by simpa using hb
   exact⟨_,by simp[binOp,Op.shift,h0],rfl⟩
  ·cases h
theorem ZE (a b:List UInt8):(⟨a.toArray⟩:ByteArray)++⟨b.toArray⟩=⟨(a++b).toArray⟩:=by
 apply ByteArray.ext
 simp
theorem DW (a:List UInt8):(⟨a.toArray⟩:ByteArray).toList=a:=by rw[ByteArray.toList_eq]
theorem yI (a:List UInt8):(⟨a.toArray⟩:ByteArray).size=a.length:=by show a.toArray.size=_;simp
theorem MO {op:BinOp}{x y:List UInt8}{s:S}(t:TypeId)(h:GR op x y=some s)(r:Ren):∃u,(binOp op t (.string ⟨x.toArray⟩) (.string ⟨y.toArray⟩)).run P w=.ok u w/\VS r s u:=by
 cases op<;>simp only[GR]at h<;>(first |(cases h;done)|skip)<;>(try(cases h;first |exact⟨_,(by simp only[binOp,Op.stringOp,DW];rfl),rfl⟩|skip))
 unfold cat at h
 cases hb:aib (x.length+y.length) maxStr<;>simp only[hb,aeW,aeS]at h
 ·cases h
 ·cases h
  have h1:=aff hb
  have h2:¬((x.length:Int)+(y.length:Int)>IntKind.i64.max):=by
   have:IntKind.i64.max=9223372036854775807:=by decide
   rw[this];unfold maxStr at h1;omega
  refine⟨_,?_,rfl⟩
  simp only[binOp,Op.stringOp,ZE]
  rw[afc (by simpa[yI]using h2)]
  rfl
theorem dY {α:Type}{x y:Option α}{z:α}(h:orO x y=some z):x=some z\/y=some z:=by
 cases x with
 |none=>exact .inr h
 |some a=>exact .inl h
theorem BM (a b:List UInt8):(a==b)=decide (a=b):=by rw[agM];simp
theorem rY {r:Ren}{x:S}{p:IntKind×N}(h:x.num=some p){u:Value}(hu:VS r x u):u=.int p.1 (NV p.2):=by
 unfold S.num at h
 split at h<;>cases h<;>exact hu
theorem GY {a:N}{p:Int×Int}(h:a.iv=some p):p.1<=NV a/\NV a<=p.2:=by
 unfold N.iv at h
 split at h
 ·cases h;exact⟨agd _,agd _⟩
 ·exact Base.ok.iv _ _ h
theorem a4H {a b:N}{r:Bool}(h:ltI a b=some r):r=decide (NV a<NV b):=by
 obtain⟨p,hp,h⟩:=aj h
 obtain⟨q,hq,h⟩:=aj h
 have h1:=GY hp
 have h2:=GY hq
 by_cases c1:p.2<q.1
 ·rw[afn c1]at h
  cases h
  exact(afn (by omega)).symm
 ·rw[af2 c1]at h
  by_cases c2:q.2<=p.1
  ·rw[afn c2]at h
   cases h
   exact(af2 (by omega)).symm
  ·rw[af2 c2]at h
   cases h
theorem a3S {a b:N}{r:Bool}(h:eqI a b=some r):r=decide (NV a=NV b):=by
 obtain⟨p,hp,h⟩:=aj h
 obtain⟨q,hq,h⟩:=aj h
 have h1:=GY hp
 have h2:=GY hq
 cases hc:(decide (p.2<q.1)||decide (q.2<p.1))<;>rw[hc]at h<;>simp only[aeW,aeS]at h
 ·cases hd:(decide (p=q)&&decide (p.1=p.2))<;>rw[hd]at h<;>cases h
  simp only[aeI,af6]at hd
  obtain⟨rfl,hd⟩:=hd
  exact(afn (by omega)).symm
 ·cases h
  refine(af2 ?_).symm
  simp only[afJ,af6]at hc
  omega
theorem a2L {i j:Nat}(h:aic i j=true):i=j:=aeX h
theorem tZ {a b:N}{r:Bool}(h:ltX a b=some r):r=decide (NV a<NV b):=by
 unfold ltX at h
 split at h
 ·rename_i i j
  cases c1:aic i j<;>rw[c1]at h<;>simp only[aeW,aeS]at h
  ·cases c2:jO Know.lt i j<;>rw[c2]at h<;>simp only[aeW,aeS]at h
   ·cases c3:jO Know.lt j i<;>rw[c3]at h<;>simp only[aeW,aeS]at h
    ·exact a4H h
    ·cases h
     have:=Base.ok.lt _ _ c3
     exact(af2 (by show ¬Base.rho i<Base.rho j;omega)).symm
   ·cases h
    exact(afn (Base.ok.lt _ _ c2)).symm
  ·cases h
   obtain rfl:=a2L c1
   simp
 ·exact a4H h
theorem Ns {a b:N}{r:Bool}(h:eqX a b=some r):r=decide (NV a=NV b):=by
 unfold eqX at h
 split at h
 ·rename_i i j
  cases c1:aic i j<;>rw[c1]at h<;>simp only[aeW,aeS]at h
  ·cases c2:(jO Know.ne i j||jO Know.ne j i||jO Know.lt i j||jO Know.lt j i)<;>rw[c2]at h<;>simp only[aeW,aeS]at h
   ·exact a3S h
   ·cases h
    refine(af2 ?_).symm
    show ¬Base.rho i=Base.rho j
    simp only[afJ]at c2
    rcases c2 with((c2|c2)|c2)|c2
    ·exact Base.ok.ne _ _ c2
    ·exact λe=>Base.ok.ne _ _ c2 e.symm
    ·have:=Base.ok.lt _ _ c2;omega
    ·have:=Base.ok.lt _ _ c2;omega
  ·cases h
   obtain rfl:=a2L c1
   simp
 ·exact a3S h
theorem Ez {x:Option Bool}{b:Bool}(h:uo x=some b):x=some (!b):=by
 obtain⟨y,hy,h⟩:=aj h
 cases h
 simpa using hy
theorem a7J {op:BinOp}{a b:N}{r:Bool}(h:aas op a b=some r)(k:IntKind):wU op k (NV a) (NV b)=some (.bool r):=by
 unfold aas at h
 split at h
 ·have:=Ns h;subst this;simp only[wU];congr 2
 ·have:=Ns (Ez h)
  simp only[wU]
  congr 2
  cases r<;>simp at this |- <;>exact this
 ·have:=tZ h;subst this;rfl
 ·have:=tZ h;subst this;rfl
 ·have:=tZ (Ez h)
  simp only[wU]
  congr 2
  cases r<;>simp at this |- <;>omega
 ·have:=tZ (Ez h)
  simp only[wU]
  congr 2
  cases r<;>simp at this |- <;>omega
 ·cases h
theorem yU {α:Type}{x y:S}{f:N->N->Option α}{z:α}(h:a3Z x y f=some z):∃k a b,x.num=some (k,a)/\y.num=some (k,b)/\f a b=some z:=by
 obtain⟨p,hp,h⟩:=aj h
 obtain⟨q,hq,h⟩:=aj h
 cases hk:(p.1==q.1)<;>rw[hk]at h<;>simp only[aeW,aeS]at h
 ·cases h
 have hk:p.1=q.1:=by simpa using hk
 exact⟨p.1,p.2,q.2,hp,by rw[hk];exact hq,h⟩
theorem Js (sig:Nat->List UInt8):∀a b:List Nat,bW sig (a++b)=bW sig a++bW sig b
 |[],_=>rfl
 |n::a,b=>by simp[bW,Js sig a b]
theorem QF (sig:Nat->List UInt8):∀s:List UInt8,bW sig (s.map UInt8.toNat)=s
 |[]=>rfl
 |c::s=>by
  have:aif c.toNat 256=true:=by
   show aib (c.toNat+1) 256=true
   exact agb c.toNat_lt
  simp[bW,this,QF sig s]
theorem kX {r:Ren}{x:S}{l:List Nat}(h:x.txt=some l){u:Value}(hu:VS r x u):u=.string ⟨(bW Base.sig l).toArray⟩:=by
 unfold S.txt at h
 split at h<;>cases h
 ·rw[QF];exact hu
 ·exact hu
theorem lX:∀{a b:List Nat},iO a b=true->a=b
 |[],[],_=>rfl
 |a::r,b::s,h=>by
  simp only[iO,aeI]at h
  rw[a2L h.1,lX h.2]
 |[],_::_,h=>by cases h
 |_::_,[],h=>by cases h
theorem Me {a b:List Nat}{z:Bool}:∀{l:List (List Nat×List Nat×Bool)},P6 a b l=some z->(a,b,z)∈l\/(b,a,z)∈l
 |[],h=>by cases h
 |(p,q,r)::t,h=>by
  have h:(bif (iO p a&&iO q b)||(iO p b&&iO q a)then some r else P6 a b t)=some z:=h
  cases hc:((iO p a&&iO q b)||(iO p b&&iO q a))<;>rw[hc]at h<;>simp only[aeW,aeS]at h
  ·rcases Me h with h|h
   ·exact .inl (by simp[h])
   ·exact .inr (by simp[h])
  ·cases h
   simp only[afJ,aeI]at hc
   rcases hc with⟨h1,h2⟩|⟨h1,h2⟩
   ·rw[lX h1,lX h2];simp
   ·rw[lX h1,lX h2];simp
theorem TV {a b:List Nat}{z:Bool}(h:eqS a b=some z):z=decide (bW Base.sig a=bW Base.sig b):=by
 unfold eqS at h
 cases hc:iO a b<;>rw[hc]at h<;>simp only[aeW,aeS]at h
 ·rcases Me h with h|h
  ·exact(Base.ok.sq _ _ _ h).symm
  ·rw[<-Base.ok.sq _ _ _ h]
   exact afG.2 eq_comm
 ·cases h
  rw[lX hc]
  simp
theorem V6:∀{l:List Nat} {m:Nat},mxX l=some m->(bW Base.sig l).length<=m
 |[],m,h=>by cases h;exact aeM _
 |n::r,m,h=>by
  obtain⟨k,hk,h⟩:=aj (show ob (mxX r) (λm=>bif aif n 256 then some (m+1)else ob (nth Know.mx (n-256)) λk=>some (m+k))=some m from h)
  have ih:=V6 hk
  rw[bW,aeL]
  cases hc:aif n 256<;>rw[hc]at h<;>simp only[aeW,aeS]at h
  ·obtain⟨q,hq,h⟩:=aj h
   cases h
   have:=Base.ok.mx _ _ hq
   simp only[aeS]
   omega
  ·cases h
   simp
   omega
theorem SL (a b:List UInt8):((⟨a.toArray⟩:ByteArray).toList==(⟨b.toArray⟩:ByteArray).toList)=(a==b):=by rw[DW,DW]
theorem a2d {r:Ren}{x y:S}{u v:Value}{b:Bool}(h:a8Y x y=some b)(hu:VS r x u)(hv:VS r y v){t:TypeId}{k:IntKind}(ht:P.underlying t=some (.int k))(d:Nat):(Op.equalIn (d+1) t u v).run P w=.ok b w:=by
 have hh:=dY h
 clear h
 rcases hh with h|h
 case inr=>
  obtain⟨k1,a,c,e1,e2,h⟩:=yU h
  rw[rY e1 hu,rY e2 hv,Ns h]
  exact ahV w d t k1 k _ _ ht
 unfold a4Q at h
 split at h<;>try cases h
 rename_i k1 a k2 b'
 cases hk:(k1==k2)<;>simp only[hk,aeW,aeS]at h<;>cases h
 obtain rfl:k1=k2:=by simpa using hk
 cases hu;cases hv
 exact ahV w d t k1 k a b' ht
theorem vZ {i:Nat}{c:Int}{b:Bool}(h:eqC i c=some b):decide (Base.rho i=c)=b:=by
 obtain⟨p,hp,h⟩:=aj h
 obtain⟨h1,h2⟩:=Base.ok.iv _ _ hp
 cases hc:(decide (c<p.1)||decide (p.2<c))<;>rw[hc]at h<;>simp only[aeW,aeS]at h
 ·cases hd:(decide (p.1=c)&&decide (p.2=c))<;>rw[hd]at h<;>simp only[aeW,aeS]at h
  ·cases h
  ·cases h
   simp at hd
   simp
   omega
 ·cases h
  simp at hc
  simp
  omega
theorem ZM (p:Nat×Int)(t:List (Nat×Int)):zX (p::t)=Option.rec (ob (zX t) λb=>bif b then some true else none) (λb=>bif b then some true else zX t) (eqC p.1 p.2):=rfl
theorem G6:∀{l:List (Nat×Int)} {b:Bool},zX l=some b->(l.any λp=>decide (Base.rho p.1=p.2))=b
 |[],b,h=>by cases h;rfl
 |p::t,b,h=>by
  rw[ZM]at h
  rw[agz]
  cases hq:eqC p.1 p.2 with
  |none=>
   rw[hq]at h
   obtain⟨c,hc,h⟩:=aj h
   cases c<;>simp only[aeW,aeS]at h<;>cases h
   rw[G6 hc,Bool.or_true]
  |some c=>
   rw[hq]at h
   rw[vZ hq]
   cases c
   ·rw[Bool.false_or];exact G6 h
   ·cases h;rfl
theorem Zx (p:Nat×Int)(t:List (Nat×Int)):Zp (p::t)=Option.rec (ob (Zp t) λb=>bif b then none else some false) (λb=>bif b then Zp t else some false) (eqC p.1 p.2):=rfl
theorem Ox:∀{l:List (Nat×Int)} {b:Bool},Zp l=some b->(l.all λp=>decide (Base.rho p.1=p.2))=b
 |[],b,h=>by cases h;rfl
 |p::t,b,h=>by
  rw[Zx]at h
  rw[afz]
  cases hq:eqC p.1 p.2 with
  |none=>
   rw[hq]at h
   obtain⟨c,hc,h⟩:=aj h
   cases c<;>simp only[aeW,aeS]at h<;>cases h
   rw[Ox hc,ahk]
  |some c=>
   rw[hq]at h
   rw[vZ hq]
   cases c
   ·cases h;rfl
   ·rw[afY];exact Ox h
theorem PD {p:Nat×Int}:∀{l:List (Nat×Int)},a3I l p=true->p∈l
 |[],h=>by cases h
 |q::t,h=>by
  have h:((aic q.1 p.1&&decide (q.2=p.2))||a3I t p)=true:=h
  simp only[afJ,aeI,af6]at h
  rcases h with⟨h1,h2⟩|h
  ·rw[show p=q from(Prod.ext (aeX h1) h2).symm];exact afh ..
  ·exact afd _ (PD h)
theorem WJ {l:List (Nat×Int)}{b:Bool}(h:OX l=some b):(l.all λp=>decide (Base.rho p.1=p.2))=b:=by
 unfold OX at h
 cases he:Zp l with
 |some c=>rw[he]at h;cases h;exact Ox he
 |none=>
  rw[he]at h
  have h:(bif Know.cf.any (λm=>m.all (a3I l))then some false else none)=some b:=h
  cases hc:Know.cf.any (λm=>m.all (a3I l))<;>rw[hc]at h<;>cases h
  obtain⟨m,hm,hs⟩:=agk.1 hc
  have hf:=Base.ok.cf m hm
  cases hl:(l.all λp=>decide (Base.rho p.1=p.2))with
  |false=>rfl
  |true=>
   have:(m.all λp=>decide (Base.rho p.1=p.2))=true:=aeV.2 λp hp=>aeV.1 hl p (PD (aeV.1 hs p hp))
   rw[this]at hf
   cases hf
theorem o8 {r:Ren}{x:S}{b:Bool}(h:x.isBool=some b){u:Value}(hu:VS r x u):u=.bool b:=by
 unfold S.isBool at h
 split at h
 ·cases h;exact hu
 ·rw[<-G6 h];exact hu
 ·obtain⟨c,hc,h⟩:=aj h
  cases h
  rw[<-WJ hc];exact hu
 ·cases h
theorem su:∀{a b:List (Nat×Int)},xw a b=true->a=b
 |[],[],_=>rfl
 |a::r,b::s,h=>by
  simp only[xw,aeI,af6]at h
  obtain⟨⟨h1,h2⟩,h3⟩:=h
  rw[su h3,show a=b from Prod.ext (aeX h1) h2]
 |[],_::_,h=>by cases h
 |_::_,[],h=>by cases h
theorem EO {r:Ren}{x y:S}{u v:Value}{b:Bool}(h:xK x y=some b)(hu:VS r x u)(hv:VS r y v):∃p q:Bool,u=.bool p/\v=.bool q/\b=(p==q):=by
 rcases dY h with h|h
 ·unfold XO at h
  split at h
  ·cases h;cases hu;cases hv;exact⟨_,_,rfl,rfl,rfl⟩
  ·rename_i l m _
   cases hs:xw l m<;>rw[hs]at h<;>cases h
   obtain rfl:=su hs
   cases hu;cases hv
   exact⟨_,_,rfl,rfl,by simp⟩
  ·rename_i l p m q _
   cases hs:xw l m<;>rw[hs]at h<;>cases h
   obtain rfl:=su hs
   cases hu;cases hv
   refine⟨_,_,rfl,rfl,?_⟩
   cases(l.all λp=>decide (Base.rho p.1=p.2))<;>cases p<;>cases q<;>rfl
  ·cases h
 ·obtain⟨p,hp,h⟩:=aj h
  obtain⟨q,hq,h⟩:=aj h
  cases h
  exact⟨p,q,o8 hp hu,o8 hq hv,rfl⟩
theorem Nk {r:Ren}{x y:S}{u v:Value}{b:Bool}(h:xK x y=some b)(hu:VS r x u)(hv:VS r y v){t:TypeId}(ht:P.underlying t=some .bool)(d:Nat):(Op.equalIn (d+1) t u v).run P w=.ok b w:=by
 obtain⟨p,q,rfl,rfl,rfl⟩:=EO h hu hv
 exact ahZ w d t _ _ ht
theorem a1L {r:Ren}{x y:S}{u v:Value}{b:Bool}(h:eqStr x y=some b)(hu:VS r x u)(hv:VS r y v){t:TypeId}(ht:P.underlying t=some .string)(d:Nat):(Op.equalIn (d+1) t u v).run P w=.ok b w:=by
 have hh:=dY h
 clear h
 rcases hh with h|h
 case inr=>
  obtain⟨a,ha,h⟩:=aj h
  obtain⟨c,hc,h⟩:=aj h
  rw[kX ha hu,kX hc hv,TV h,run_equalIn_string w d t _ _ ht,SL]
  rw[BM]
 unfold a1s at h
 split at h<;>cases h
 cases hu;cases hv
 rw[run_equalIn_string w d t _ _ ht,SL]
theorem o9 {p q:Option Bool}{b:Bool}(h:eqNil p q=some b):∃x y,p=some x/\q=some y/\(x||y)=true/\b=(x&&y):=by
 unfold eqNil at h
 obtain⟨x,hx,h⟩:=aj h
 obtain⟨y,hy,h⟩:=aj h
 cases hk:(x||y)<;>simp only[hk,aeW,aeS]at h<;>cases h
 exact⟨x,y,hx,hy,hk,rfl⟩
theorem yN {r:Ren}{x:S}{b:Bool}(h:nilPtr x=some b){u:Value}(hu:VS r x u):(b=true/\u=.pointer none)\/(b=false/\∃a,u=.pointer (some a)):=by
 unfold nilPtr at h
 split at h<;>cases h
 ·exact .inl ⟨rfl,hu⟩
 ·exact .inr ⟨rfl,_,hu.2⟩
theorem Ce {r:Ren}{x:S}{b:Bool}(h:MX x=some b){u:Value}(hu:VS r x u):(b=true/\u=.slice none 0 0)\/(b=false/\∃a n c,u=.slice (some a) n c):=by
 unfold MX at h
 split at h<;>cases h
 ·exact .inl ⟨rfl,hu⟩
 ·rename_i l o n z c
  cases c with
  |none=>exact .inr ⟨rfl,_,_,_,hu.2.2.2⟩
  |some c=>exact .inr ⟨rfl,_,_,_,hu.2.2.2⟩
 ·obtain⟨a,c,e⟩:=hu
  exact .inr ⟨rfl,_,_,_,e⟩
theorem BK {r:Ren}{x:S}{b:Bool}(h:La x=some b){u:Value}(hu:VS r x u):(b=true/\u=.nilIface)\/(b=false/\∃t y,u=.iface t y):=by
 unfold La at h
 split at h<;>cases h
 ·exact .inl ⟨rfl,hu⟩
 ·exact .inr ⟨rfl,hu⟩
theorem a0F {r:Ren}{x y:S}{u v:Value}{b:Bool}(h:eqNil (nilPtr x) (nilPtr y)=some b)(hu:VS r x u)(hv:VS r y v){t e:TypeId}(ht:P.underlying t=some (.pointer e))(d:Nat):(Op.equalIn (d+1) t u v).run P w=.ok b w:=by
 obtain⟨p,q,hp,hq,ho,rfl⟩:=o9 h
 rcases yN hp hu with⟨rfl,rfl⟩|⟨rfl,a,rfl⟩<;>rcases yN hq hv with⟨rfl,rfl⟩|⟨rfl,c,rfl⟩<;>simp[Op.equalIn,ahG ht]at ho |-
theorem a5M {r:Ren}{x y:S}{u v:Value}{b:Bool}(h:eqNil (MX x) (MX y)=some b)(hu:VS r x u)(hv:VS r y v){t e:TypeId}(ht:P.underlying t=some (.slice e))(d:Nat):(Op.equalIn (d+1) t u v).run P w=.ok b w:=by
 obtain⟨p,q,hp,hq,ho,rfl⟩:=o9 h
 rcases Ce hp hu with⟨rfl,rfl⟩|⟨rfl,a,_,_,rfl⟩<;>rcases Ce hq hv with⟨rfl,rfl⟩|⟨rfl,c,_,_,rfl⟩<;>simp[Op.equalIn,ahG ht]at ho |-
theorem a8d {r:Ren}{x y:S}{u v:Value}{b:Bool}(h:eqNil (La x) (La y)=some b)(hu:VS r x u)(hv:VS r y v){t:TypeId}{m:Array (String×TypeId)}(ht:P.underlying t=some (.interface m))(d:Nat):(Op.equalIn (d+1) t u v).run P w=.ok b w:=by
 obtain⟨p,q,hp,hq,ho,rfl⟩:=o9 h
 rcases BK hp hu with⟨rfl,rfl⟩|⟨rfl,a,_,rfl⟩<;>rcases BK hq hv with⟨rfl,rfl⟩|⟨rfl,c,_,rfl⟩<;>simp[Op.equalIn,ahG ht]at ho |-
theorem yO {ty:Tys}(hty:eY P ty){t:TypeId}{T:Ty}(ht:ty t=some T){r:Ren}{xs:List S}{us:List Value}(hx:au (VS r) xs us){o:Nat}{c:List S}(hc:ext xs o T.size=some c){x:A}(hm:T.mk' c=some x):
  ∃u,(part t us.toArray o).run P w=.ok u w/\VA r x u/\x.cells=c:=by
 obtain⟨i,d,z,hi,hd,hz,h1,h2,h3,h4⟩:=hty t T ht
 obtain⟨hlen,rfl⟩:=ext_eq hc
 have hsz:(sizeOf t).run P w=.ok T.size w:=by simp[sizeOf,typeInfo,hi,h2]
 have ha:(isAgg t).run P w=.ok T.d.agg w:=by
  rw[h1]
  unfold isAgg
  cases d<;>simp[ahG hd,dOf,D.agg]
 unfold Ty.mk' at hm
 cases hg:T.d.agg<;>simp only[hg,aeW,aeS]at hm
 ·split at hm<;>cases hm
  rename_i y hy
  have hn:nth xs o=some y:=by
   rw[aI]
   have:=congrArg (λl=>l[0]?) hy
   simp only[agh]at this
   by_cases h0:T.size=0
   ·rw[h0]at hy;simp at hy
   ·simpa[afQ,afR,ahn h0]using this
  obtain⟨u,hu,hv⟩:=au.nth hx hn
  exact⟨u,by simp[part,ha,hg,hu],hv,hy.symm⟩
 ·cases hm
  refine⟨.agg ((us.drop o).take T.size).toArray,?_,⟨_,rfl,(hx.drop o).take _⟩,rfl⟩
  simp[part,ha,hg,hsz]
theorem LH (ty:Tys)(n:Nat)(t:TypeId)(xs ys:List S):OT ty (n+1) t xs ys=ob (ty t) λT=>eqD ty (OT ty n) T.cmp T.d xs ys:=rfl
theorem uU {α:Type}{f:S->S->Option α}{xs ys:List S}{b:α}(h:one1 f xs ys=some b):∃x y,xs=[x]/\ys=[y]/\f x y=some b:=by
 unfold one1 at h
 split at h
 ·exact⟨_,_,rfl,rfl,h⟩
 ·cases h
theorem E8 {r:Ren}{x:A}{s:S}(hc:x.cells=[s]){u:Value}(hu:VA r x u){T:Ty}(hm:T.mk' x.cells=some x)(ha:T.d.agg=false):VS r s u:=by
 cases x with
 |s y=>simp[A.cells]at hc;subst hc;exact hu
 |g l=>unfold Ty.mk' at hm;simp only[ha,aeS]at hm;split at hm<;>cases hm
theorem NM {r:Ren}{x:A}{u:Value}(hu:VA r x u){T:Ty}(hm:T.mk' x.cells=some x)(ha:T.d.agg=true):∃us:List Value,u=.agg us.toArray/\au (VS r) x.cells us:=by
 cases x with
 |s y=>unfold Ty.mk' at hm;simp only[ha,aeW]at hm;cases hm
 |g l=>exact hu
theorem NY {ty:Tys}{n:Nat}{t:TypeId}{xs ys:List S}{b:Q}(h:OT ty n t xs ys=some b){T:Ty}(ht:ty t=some T):∃x y,T.mk' xs=some x/\T.mk' ys=some y:=by
 cases n with
 |zero=>cases h
 |succ n=>
  rw[LH,ht]at h
  simp only[lW]at h
  unfold Ty.mk'
  cases hd:T.d<;>simp only[hd,eqD]at h<;>(try cases h)
  all_goals(first
   |(obtain⟨x,y,rfl,rfl,_⟩:=uU h;exact⟨_,_,rfl,rfl⟩)
   |(obtain⟨_,h,_⟩:=aj h;obtain⟨x,y,rfl,rfl,_⟩:=uU h;exact⟨_,_,rfl,rfl⟩)
   |exact⟨_,_,rfl,rfl⟩)
def Q.val (q:Q):Bool:=match q with | .b x=>x| .c l=>l.all λp=>decide (Base.rho p.1=p.2)
def ab5 (P:Program)(ty:Tys)(w:World)(f:TypeId->List S->List S->Option Q)(d:Nat):Prop:=
 ∀(r:Ren) t T x y u v b,ty t=some T->T.mk' x.cells=some x->T.mk' y.cells=some y->VA r x u->VA r y v->f t x.cells y.cells=some b->(Op.equalIn d t u v).run P w=.ok b.val w
theorem Q.and_val (p q:Q):(p.and q).val=(p.val&&q.val):=by
 cases p with
 |b x=>cases x<;>cases q<;>simp[Q.and,Q.val]
 |c l=>cases q with
  |b y=>cases y<;>simp[Q.and,Q.val]
  |c m=>simp[Q.and,Q.val,agi]
theorem EZ {r:Option Q}{k:Option Q}{q:Q}(h:TN r k=some q):∃p,r=some p/\((p=.b false/\q=.b false)\/∃q',k=some q'/\q=p.and q'):=by
 obtain⟨p,hp,h⟩:=aj h
 refine⟨p,hp,?_⟩
 split at h
 ·cases h;exact .inl ⟨rfl,rfl⟩
 ·obtain⟨q',hq,h⟩:=aj h
  cases h
  exact .inr ⟨q',hq,rfl⟩
theorem nX {i j d:Nat}:∀{l:List (Nat×Nat×Nat)},EY i j l=some d->(i,j,d)∈l
 |[],h=>by cases h
 |p::t,h=>by
  have h:(bif aic p.1 i&&aic p.2.1 j then some p.2.2 else EY i j t)=some d:=h
  cases hc:(aic p.1 i&&aic p.2.1 j)<;>rw[hc]at h<;>simp only[aeW,aeS]at h
  ·exact afd _ (nX h)
  ·cases h
   simp only[aeI]at hc
   rw[<-aeX hc.1,<-aeX hc.2]
   exact afh ..
theorem AA {i k:Nat}{c:Int}:∀{l:List (Nat×Int×Nat)},Oy i c l=some k->(i,c,k)∈l
 |[],h=>by cases h
 |p::t,h=>by
  have h:(bif aic p.1 i&&decide (p.2.1=c)then some p.2.2 else Oy i c t)=some k:=h
  cases hc:(aic p.1 i&&decide (p.2.1=c))<;>rw[hc]at h<;>simp only[aeW,aeS]at h
  ·exact afd _ (AA h)
  ·cases h
   simp only[aeI,af6]at hc
   rw[<-aeX hc.1,<-hc.2]
   exact afh ..
theorem a9e {a b:N}(h:a.eqv b=true):a=b:=by
 cases a<;>cases b<;>simp[N.eqv]at h
 ·rw[h]
 ·rw[h]
theorem abM {a b:Option N}(h:N.eqo a b=true):a=b:=by
 cases a<;>cases b<;>simp[N.eqo]at h
 ·rfl
 ·rw[a9e h]
theorem zY {a b:List Nat}{m:List (Nat×Int)}:∀{l:List (List Nat×List Nat×List (Nat×Int))},Iq a b l=some m->(a,b,m)∈l
 |[],h=>by cases h
 |(p,q,r)::t,h=>by
  have h:(bif iO p a&&iO q b then some r else Iq a b t)=some m:=h
  cases hc:(iO p a&&iO q b)<;>rw[hc]at h<;>simp only[aeW,aeS]at h
  ·exact afd _ (zY h)
  ·cases h
   simp only[aeI]at hc
   rw[lX hc.1,lX hc.2]
   exact afh ..
theorem H8 {l:List Nat}{a:N}{b:Option N}{m:List Nat}:∀{t:List (List Nat×N×Option N×List Nat)},Ny l a b t=some m->(l,a,b,m)∈t
 |[],h=>by cases h
 |(p,c,e,r)::t,h=>by
  have h:(bif iO p l&&c.eqv a&&N.eqo e b then some r else Ny l a b t)=some m:=h
  cases hc:(iO p l&&c.eqv a&&N.eqo e b)<;>rw[hc]at h<;>simp only[aeW,aeS]at h
  ·exact afd _ (H8 h)
  ·cases h
   simp only[aeI]at hc
   rw[lX hc.1.1,a9e hc.1.2,abM hc.2]
   exact afh ..
theorem Yd {r:Ren}{x y:S}{u v:Value}{q:Q}(h:UM x y=some q)(hu:VS r x u)(hv:VS r y v){t:TypeId}{k:IntKind}(ht:P.underlying t=some (.int k))(d:Nat):(Op.equalIn (d+1) t u v).run P w=.ok q.val w:=by
 have key:∀{i:Nat} {c:Int} {q:Q},(Option.rec (some (qA i c)) (λb=>some (.b b)) (eqC i c):Option Q)=some q->q.val=decide (Base.rho i=c):=λ{i c q} h=>by
  cases he:eqC i c with
  |none=>rw[he]at h;cases h;simp[Q.val,qA]
  |some b=>rw[he]at h;cases h;exact(vZ he).symm
 unfold UM at h
 split at h
 ·rename_i k1 i k2 c
  cases hk:(k1==k2)<;>rw[hk]at h<;>simp only[aeW,aeS]at h
  ·cases h
  obtain rfl:k1=k2:=by simpa using hk
  rw[key h]
  cases hu;cases hv
  rw[ahV w d t k1 k _ _ ht]
  rfl
 ·rename_i k1 c k2 i
  cases hk:(k2==k1)<;>rw[hk]at h<;>simp only[aeW,aeS]at h
  ·cases h
  obtain rfl:k2=k1:=by simpa using hk
  rw[key h]
  cases hu;cases hv
  rw[ahV w d t k2 k _ _ ht]
  congr 1
  show(c==Base.rho i)=_
  by_cases e:Base.rho i=c
  ·simp[e]
  ·have:¬c=Base.rho i:=λh=>e h.symm
   simp[e,this]
 ·rename_i k1 i k2 j
  cases hk:(k1==k2)<;>rw[hk]at h<;>simp only[aeW,aeS]at h
  ·cases h
  obtain rfl:k1=k2:=by simpa using hk
  cases hu;cases hv
  rw[ahV w d t k1 k _ _ ht]
  rcases dY h with h|h
  ·obtain⟨b,hb,h⟩:=aj h
   cases h
   rw[show Q.val (.b b)=b from rfl,Ns hb]
   rfl
  ·obtain⟨m,hm,h⟩:=aj h
   cases h
   have:=Base.ok.df _ _ _ (nX hm)
   congr 1
   show(Base.rho i==Base.rho j)=_
   by_cases e:Base.rho i=Base.rho j
   ·simp[Q.val,qA,e,this.1 e]
   ·have:¬Base.rho m=0:=λh=>e (this.2 h)
    simp[Q.val,qA,e,this]
 ·obtain⟨b,hb,h⟩:=aj h
  cases h
  exact a2d hb hu hv ht d
theorem Dl {l:List (Nat×Int)}{b:Bool}{q:Q}(h:MJ l b=some q):q.val=((l.any λp=>decide (Base.rho p.1=p.2))==b):=by
 unfold MJ at h
 split at h
 ·rename_i i c
  cases he:eqC i c with
  |some v=>
   rw[he]at h
   cases h
   simp[Q.val,vZ he]
  |none=>
   rw[he]at h
   have h:(bif b then some (qA i c)else ob (nth Know.iv i) λp=>bif decide (p=(0,1))&&decide (c=1)then some (qA i 0)else none)=some q:=h
   cases b<;>simp only[aeW,aeS]at h
   ·obtain⟨p,hp,h⟩:=aj h
    cases hc:(decide (p=(0,1))&&decide (c=1))<;>rw[hc]at h<;>simp only[aeW,aeS]at h<;>cases h
    simp only[aeI,af6]at hc
    obtain⟨rfl,rfl⟩:=hc
    have:=Base.ok.iv _ _ hp
    simp only at this
    have h01:Base.rho i=0\/Base.rho i=1:=by omega
    rcases h01 with e|e<;>simp[Q.val,qA,e]
   ·cases h
    simp[Q.val,qA]
 ·cases h
theorem WC {i:Nat}(h:Zt i=true):Base.rho i=0\/Base.rho i=1:=by
 unfold Zt at h
 cases hp:nth Know.iv i with
 |none=>rw[hp]at h;cases h
 |some p=>
  rw[hp]at h
  simp only[af6]at h
  subst h
  have:=Base.ok.iv _ _ hp
  simp only at this
  omega
theorem Ua {r:Ren}{x y:S}{u v:Value}{q:Q}(h:NR x y=some q)(hu:VS r x u)(hv:VS r y v){t:TypeId}(ht:P.underlying t=some .bool)(d:Nat):(Op.equalIn (d+1) t u v).run P w=.ok q.val w:=by
 have old:∀{x y:S} {u v:Value} {q:Q},VS r x u->VS r y v->(ob (xK x y) λb=>some (Q.b b))=some q->(Op.equalIn (d+1) t u v).run P w=.ok q.val w:=λhu hv h=>by
  obtain⟨b,hb,h⟩:=aj h
  cases h
  exact Nk hb hu hv ht d
 unfold NR at h
 split at h
 ·rename_i l b
  rcases dY h with h|h
  ·rw[Dl h]
   cases hu;cases hv
   rw[ahZ w d t _ _ ht]
  ·exact old hu hv h
 ·rename_i b l
  rcases dY h with h|h
  ·rw[Dl h]
   cases hu;cases hv
   rw[ahZ w d t _ _ ht]
   congr 1
   exact Bool.beq_comm ..
  ·exact old hu hv h
 ·rename_i l m
  have h0:=dY h
  clear h
  rcases h0 with h|h
  ·exact old hu hv h
  ·unfold dfB at h
   split at h
   ·rename_i i c j e
    cases hc:(decide (c=1)&&decide (e=1)&&Zt i&&Zt j)<;>rw[hc]at h<;>simp only[aeW,aeS]at h
    ·cases h
    simp only[aeI,af6]at hc
    obtain⟨⟨⟨rfl,rfl⟩,h1⟩,h2⟩:=hc
    obtain⟨n,hn,h⟩:=aj h
    cases h
    have hd:=Base.ok.df _ _ _ (nX hn)
    have a1:=WC h1
    have a2:=WC h2
    cases hu;cases hv
    rw[ahZ w d t _ _ ht]
    congr 1
    rcases a1 with e1|e1<;>rcases a2 with e2|e2<;>rw[e1,e2]at hd<;>simp[Q.val,qA,e1,e2]at hd |- <;>simp[hd]
   ·cases h
 ·exact old hu hv h
theorem F8 {ty:Tys}(hty:eY P ty){n d:Nat}(IH:ab5 P ty w (OT ty n) d){r:Ren}{xs ys:List S}{us vs:List Value}(hx:au (VS r) xs us)(hy:au (VS r) ys vs):
  ∀(F:List Field) (q:Q),(∀f∈F,f.name≠ "_")->eqFields ty (OT ty n) xs ys (F.map λf=>(f.offset,f.type))=some q->(Op.eqFields d us.toArray vs.toArray F).run P w=.ok q.val w
 |[],b,_,h=>by cases h;rfl
 |f::F,b,hn,h=>by
  simp only[afr,eqFields]at h
  obtain⟨T,hT,h⟩:=aj h
  obtain⟨x,hxe,h⟩:=aj h
  obtain⟨y,hye,h⟩:=aj h
  obtain⟨c,hc,h⟩:=EZ h
  obtain⟨x',y',hmx,hmy⟩:=NY hc hT
  obtain⟨u,hu,hu',ex⟩:=yO (w:=w) hty hT hx hxe hmx
  obtain⟨v,hv,hv',ey⟩:=yO (w:=w) hty hT hy hye hmy
  have hr:=IH r f.type T x' y' u v c hT (by rw[ex];exact hmx) (by rw[ey];exact hmy) hu' hv' (by rw[ex,ey];exact hc)
  simp only[Op.eqFields,hn f (by simp),ne_eq,not_false_eq_true,agL,ahJ,hu,hv,hr,ahH]
  rcases h with⟨rfl,rfl⟩|⟨q',hq',rfl⟩
  ·simp[Q.val]
  ·rw[Q.and_val]
   have hrest:=F8 hty IH hx hy F q' (λg hg=>hn g (by simp[hg])) hq'
   cases c.val
   ·simp
   ·simpa using hrest
theorem JJ {ty:Tys}(hty:eY P ty){n d:Nat}(IH:ab5 P ty w (OT ty n) d){r:Ren}{xs ys:List S}{us vs:List Value}(hx:au (VS r) xs us)(hy:au (VS r) ys vs){e:TypeId}{E:Ty}(hE:ty e=some E):
  ∀(k i:Nat) (q:Q),FN (OT ty n) e E.size xs ys k i=some q->(Op.eqItems d e E.size us.toArray vs.toArray (List.range' i k)).run P w=.ok q.val w
 |0,_,b,h=>by cases h;rfl
 |k+1,i,b,h=>by
  simp only[FN]at h
  obtain⟨x,hxe,h⟩:=aj h
  obtain⟨y,hye,h⟩:=aj h
  obtain⟨c,hc,h⟩:=EZ h
  obtain⟨x',y',hmx,hmy⟩:=NY hc hE
  obtain⟨u,hu,hu',ex⟩:=yO (w:=w) hty hE hx hxe hmx
  obtain⟨v,hv,hv',ey⟩:=yO (w:=w) hty hE hy hye hmy
  have hr:=IH r e E x' y' u v c hE (by rw[ex];exact hmx) (by rw[ey];exact hmy) hu' hv' (by rw[ex,ey];exact hc)
  simp only[List.range'_succ,Op.eqItems,ahJ,hu,hv,hr,ahH]
  rcases h with⟨rfl,rfl⟩|⟨q',hq',rfl⟩
  ·simp[Q.val]
  ·rw[Q.and_val]
   have hrest:=JJ hty IH hx hy hE k (i+1) q' hq'
   cases c.val
   ·simp
   ·simpa using hrest
theorem VK {ty:Tys}(hty:eY P ty):∀(n k:Nat),ab5 P ty w (OT ty n) (k+n)
 |0,_=>λr t T x y u v b _ _ _ _ _ h=>by cases h
 |n+1,k=>λr t T x y u v b hT hmx hmy hu hv h=>by
  rw[LH,hT]at h
  simp only[lW]at h
  obtain⟨i,d,z,hi,hd,hz,h1,h2,h3,h4,_⟩:=hty t T hT
  have ih:=VK hty n k
  rw[show k+(n+1)=(k+n)+1 from rfl]
  cases hD:T.d<;>simp only[hD,eqD]at h<;>(try(cases h;done))
  ·obtain⟨a,c,e1,e2,h⟩:=uU h
   rw[hD]at h1
   exact Ua h (E8 e1 hu hmx (by simp[hD,D.agg])) (E8 e2 hv hmy (by simp[hD,D.agg])) (hd.trans (by rw[WW h1.symm])) _
  ·obtain⟨a,c,e1,e2,h⟩:=uU h
   rw[hD]at h1
   exact Yd h (E8 e1 hu hmx (by simp[hD,D.agg])) (E8 e2 hv hmy (by simp[hD,D.agg])) (hd.trans (by rw[FY h1.symm])) _
  ·obtain⟨b',hb',h⟩:=aj h
   cases h
   obtain⟨a,c,e1,e2,h⟩:=uU hb'
   rw[hD]at h1
   exact a1L h (E8 e1 hu hmx (by simp[hD,D.agg])) (E8 e2 hv hmy (by simp[hD,D.agg])) (hd.trans (by rw[wE h1.symm])) _
  ·rename_i m e
   obtain⟨E,hE,h⟩:=aj h
   rw[hD]at h1
   obtain⟨us,rfl,hus⟩:=NM hu hmx (by simp[hD,D.agg])
   obtain⟨vs,rfl,hvs⟩:=NM hv hmy (by simp[hD,D.agg])
   obtain⟨j,d',z',hj,hd',hz',g1,g2,_⟩:=hty e E hE
   have hce:P.cellsOf e=E.size:=by simp[Program.cellsOf,hj,g2]
   rw[run_equalIn_array w _ _ _ (hd.trans (by rw[G8 h1.symm])) hj,hce,List.range_eq_range']
   exact JJ hty ih hus hvs hE m 0 b h
  ·rename_i fs
   cases hcmp:T.cmp<;>rw[hcmp]at h<;>simp only[aeW,aeS]at h
   ·cases h
   rw[hD]at h1
   obtain⟨F,rfl,hfs⟩:=TU h1.symm
   rw[hcmp]at h4
   have h4:=h4.symm
   simp only[Xj,aeI]at h4
   obtain⟨us,rfl,hus⟩:=NM hu hmx (by simp[hD,D.agg])
   obtain⟨vs,rfl,hvs⟩:=NM hv hmy (by simp[hD,D.agg])
   have hf:P.fieldsOf t=F:=by simp[Program.fieldsOf,hd]
   rw[run_equalIn_struct w _ t _ _ (by rw[hf];exact hd) (by simpa using h4.1.2),hf]
   rw[hfs]at h
   refine F8 hty ih hus hvs F.toList b ?_ h
   intro f hfm
   have:=aeV.1 h4.1.1 f hfm
   simpa using this
theorem A.a97 {x:A}{k:IntKind}{n:Int}(h:x.k=.int k n):x=.s (.int k n):=by
 cases x with
 |s x=>cases x<;>simp[A.k,S.k]at h<;>simp[h]
 |g l=>simp[A.k]at h
theorem A.a9j {x:A}{s:List UInt8}(h:x.k=.str s):x=.s (.str s):=by
 cases x with
 |s x=>cases x<;>simp[A.k,S.k]at h<;>simp[h]
 |g l=>simp[A.k]at h
def guarded (op:BinOp)(t:TypeId)(x y:Operand)(u v:Value):Sem Value:=do eqGuard op t x y u v;binOp op t u v
theorem xg {op:BinOp}{t:TypeId}{x y:Operand}{u v:Value}{b:Bool}(hop:op=.eql\/op=.neq)(hg:(eqGuard op t x y u v).run P w=.ok () w)(he:(Op.equalIn 10000 t u v).run P w=.ok b w)
  (hb:∀o,o=.eql\/o=.neq->binOp o t u v=if o=.eql then(do pure (.bool (<-Op.equal t u v)))else(do pure (.bool (!(<-Op.equal t u v))))):(guarded op t x y u v).run P w=.ok (.bool (if op=.eql then b else !b)) w:=by
 simp only[guarded,ahJ,hg,ahH]
 rw[hb op hop]
 rcases hop with rfl|rfl
 ·simp[Op.equal,Op.maxDepth,he]
 ·simp[Op.equal,Op.maxDepth,he]
theorem Zf {ty:Tys}(hty:eY P ty){r:Ren}{op:BinOp}(hop:op=.eql\/op=.neq){t:TypeId}{T:Ty}(hT:ty t=some T){x y:Operand}{p q:S}{u v:Value}(hu:VS r p u)(hv:VS r q v){b:Bool}{c:Bool}
  (h:Ug c T.d p q=some b) (hc:c=true->isConst x=true\/isConst y=true):(guarded op t x y u v).run P w=.ok (.bool (if op=.eql then b else !b)) w:=by
 obtain⟨i,d,z,hi,hd,hz,h1,h2,h3,h4,_⟩:=hty t T hT
 cases hD:T.d<;>simp only[hD,Ug]at h<;>(try(cases h;done))<;>rw[hD]at h1
 ·have he:=Nk (w:=w) h hu hv (hd.trans (by rw[WW h1.symm])) 9999
  obtain⟨p,q,rfl,rfl,rfl⟩:=EO h hu hv
  exact xg hop (by rw[eqGuard_at_bool];rfl) he (λo ho=>by rcases ho with rfl|rfl<;>rfl)
 ·have he:=a0F (w:=w) h hu hv (hd.trans (by rw[a6N h1.symm])) 9999
  obtain⟨m,n,hm,hn,ho,_⟩:=o9 h
  rcases yN hm hu with⟨rfl,rfl⟩|⟨rfl,a,rfl⟩<;>rcases yN hn hv with⟨rfl,rfl⟩|⟨rfl,a',rfl⟩<;>
   first |(simp at ho;done)|exact xg hop (by rw[eqGuard_at_pointer];rfl) he (λo ho=>by rcases ho with rfl|rfl<;>rfl)
 ·have he:=a5M (w:=w) h hu hv (hd.trans (by rw[Uo h1.symm])) 9999
  obtain⟨m,n,hm,hn,ho,_⟩:=o9 h
  rcases Ce hm hu with⟨rfl,rfl⟩|⟨rfl,a,_,_,rfl⟩<;>rcases Ce hn hv with⟨rfl,rfl⟩|⟨rfl,a',_,_,rfl⟩<;>
   first |(simp at ho;done)|exact xg hop (by rw[eqGuard_at_slice];rfl) he (λo ho=>by rcases ho with rfl|rfl<;>rfl)
 ·cases hcc:c<;>rw[hcc]at h<;>simp only[aeW,aeS]at h
  ·cases h
  obtain⟨M,hM⟩:=a6U h1.symm
  have he:=a8d (w:=w) h hu hv (hd.trans (by rw[hM])) 9999
  obtain⟨m,n,hm,hn,ho,_⟩:=o9 h
  rcases BK hm hu with⟨rfl,rfl⟩|⟨rfl,a,_,rfl⟩<;>rcases BK hn hv with⟨rfl,rfl⟩|⟨rfl,a',_,rfl⟩
  ·rcases hc hcc with hx|hy
   ·cases x<;>simp[isConst]at hx
    exact xg hop (by rw[eqGuard_nil_constL];rfl) he (λo ho=>by rcases ho with rfl|rfl<;>rfl)
   ·cases y<;>simp[isConst]at hy
    exact xg hop (by rw[eqGuard_nil_constR];rfl) he (λo ho=>by rcases ho with rfl|rfl<;>rfl)
  ·exact xg hop (by rw[eqGuard_nil_iface];rfl) he (λo ho=>by rcases ho with rfl|rfl<;>rfl)
  ·exact xg hop (by rw[eqGuard_at_iface];rfl) he (λo ho=>by rcases ho with rfl|rfl<;>rfl)
  ·simp at ho
theorem Qv {ty:Tys}(hty:eY P ty){r:Ren}{op:BinOp}(hop:op=.eql\/op=.neq){t:TypeId}{x y:Operand}{p q:A}{u v:Value}(hu:VA r p u)(hv:VA r q v){b:Q}
  (h:X6 ty (isConst x||isConst y) t p q=some b):(guarded op t x y u v).run P w=.ok (.bool (if op=.eql then b.val else !b.val)) w:=by
 unfold X6 at h
 split at h
 ·obtain⟨T,hT,h⟩:=aj h
  obtain⟨c,hc,h⟩:=aj h
  cases h
  exact Zf hty hop hT hu hv hc (by simp)
 ·rename_i xs ys
  obtain⟨T,hT,h⟩:=aj h
  cases hcmp:T.cmp<;>rw[hcmp]at h<;>simp only[aeW,aeS]at h
  ·cases h
  obtain⟨X,Y,hX,hY⟩:=NY h hT
  obtain⟨i,d,z,hi,hd,hz,h1,h2,h3,h4,_⟩:=hty t T hT
  rw[hcmp]at h4
  have hg:P.eqGuardType P.depth t=false/\T.d.agg=true:=by
   have h4:=h4.symm
   cases d<;>simp[Xj]at h4<;>simp[h4,h1,dOf,D.agg]
  have hmx:T.mk' (A.g xs).cells=some (A.g xs):=by simp[Ty.mk',hg.2,A.cells]
  have hmy:T.mk' (A.g ys).cells=some (A.g ys):=by simp[Ty.mk',hg.2,A.cells]
  have he:=VK (w:=w) hty 20 9980 r t T (.g xs) (.g ys) u v b hT hmx hmy hu hv h
  obtain⟨us,rfl,_⟩:=hu
  obtain⟨vs,rfl,_⟩:=hv
  exact xg hop (run_eqGuard_agg _ _ _ _ _ _ _ hg.1) he (λo ho=>by rcases ho with rfl|rfl<;>rfl)
 ·cases h
theorem dec_not (a b:Int):decide (b<=a)=!decide (a<b):=by
 by_cases h:a<b
 ·rw[afn h,af2 (by omega)];rfl
 ·rw[af2 h,afn (by omega)];rfl
theorem Ob {ty:Tys}(hty:eY P ty){r:Ren}{op:BinOp}{t:TypeId}{x y:Operand}{p q:A}{u v:Value}(hu:VA r p u)(hv:VA r q v){s:V}(h:bin ty (isConst x||isConst y) op t p q=some s):
  ∃z,(guarded op t x y u v).run P w=.ok z w/\VV r s z:=by
 obtain⟨s',hk,hs⟩:=aj h
 clear h
 have h:=hk
 clear hk
 cases hs
 have hh:=dY h
 clear h
 rcases hh with h|h
 case inr=>
  unfold adk at h
  split at h
  ·rename_i p q
   rcases dY h with h|h
   ·obtain⟨k,a,c,e1,e2,h⟩:=yU h
    obtain⟨b,hb,h⟩:=aj h
    cases h
    obtain⟨z,hz,hz'⟩:=Hy (P:=P) (w:=w) t (a7J hb k) r
    rw[rY e1 hu,rY e2 hv]
    exact⟨z,by simp[guarded,eqGuard_at_int,hz],hz'⟩
   rcases dY h with h|h
   case inr.inr=>
    have fin:∀(k:IntKind) (i j:Nat) (bb:Bool),p=.xi k i->q=.xi k j->wU op k (Base.rho i) (Base.rho j)=some (.bool bb)->(∀z,z=.bool bb->VS r s' z)->∃z,(guarded op t x y u v).run P w=.ok z w/\VV r (V.s s') z:=by
     intro k i j bb e1 e2 ho hf
     subst e1;subst e2
     cases hu;cases hv
     obtain⟨z,hz,hz'⟩:=Hy (P:=P) (w:=w) t ho r
     exact⟨z,by simp[guarded,eqGuard_at_int,hz],hf z hz'⟩
    have hxe:∀(d:Nat) (q:Prop) [Decidable q],(Base.rho d=1↔q)->∀z,z=.bool (decide q)->VS r (a2P d) z:=by
     intro d q _ hd z hz
     unfold a2P
     cases he:eqC d 1 with
     |none=>
      show z=.bool (decide (Base.rho d=1)||false)
      rw[hz,afL,afG.2 hd]
     |some b=>
      show z=.bool b
      rw[hz,<-vZ he,afG.2 hd]
    have hxa:∀(d:Nat) (q:Prop) [Decidable q],(Base.rho d=1↔q)->∀z,z=.bool (!decide q)->VS r (a3R d) z:=by
     intro d q _ hd z hz
     unfold a3R
     cases he:eqC d 1 with
     |none=>
      show z=.bool ((decide (Base.rho d=1)&&true)==false)
      rw[hz,afg,afG.2 hd]
      cases decide q<;>rfl
     |some b=>
      show z=.bool (!b)
      rw[hz,<-vZ he,afG.2 hd]
    have less:∀{k k':IntKind} {i j:Nat} {f:Nat->S},KG k k' i j f=some s'->k=k'/\∃d,s'=f d/\(Base.rho d=1↔Base.rho i<Base.rho j):=by
     intro k k' i j f hl
     unfold KG at hl
     cases hk:(k==k')<;>rw[hk]at hl<;>simp only[aeW,aeS]at hl
     ·cases hl
     obtain⟨d,hd,hl⟩:=aj hl
     cases hl
     exact⟨by simpa using hk,d,rfl,Base.ok.xt.lf _ _ _ (nX hd)⟩
    have same:∀{k k':IntKind} {i j:Nat} {f:Nat->S},VF k k' i j f=some s'->k=k'/\∃d,s'=f d/\(Base.rho d=1↔Base.rho i=Base.rho j):=by
     intro k k' i j f hl
     unfold VF at hl
     cases hk:(k==k')<;>rw[hk]at hl<;>simp only[aeW,aeS]at hl
     ·cases hl
     obtain⟨d,hd,hl⟩:=aj hl
     cases hl
     exact⟨by simpa using hk,d,rfl,Base.ok.xt.eq _ _ _ (nX hd)⟩
    unfold adh at h
    split at h
    ·obtain⟨rfl,d,rfl,hd⟩:=less h
     exact fin _ _ _ _ rfl rfl rfl (hxe d _ hd)
    ·obtain⟨rfl,d,rfl,hd⟩:=less h
     exact fin _ _ _ _ rfl rfl rfl (hxe d _ hd)
    ·obtain⟨rfl,d,rfl,hd⟩:=less h
     exact fin _ _ _ _ rfl rfl (by simp only[wU,dec_not]) (hxa d _ hd)
    ·obtain⟨rfl,d,rfl,hd⟩:=less h
     exact fin _ _ _ _ rfl rfl (by simp only[wU,dec_not]) (hxa d _ hd)
    ·obtain⟨rfl,d,rfl,hd⟩:=same h
     exact fin _ _ _ _ rfl rfl rfl (λz hz=>hxe d _ hd z (by rw[hz];rfl))
    ·obtain⟨rfl,d,rfl,hd⟩:=same h
     exact fin _ _ _ _ rfl rfl rfl (λz hz=>hxa d _ hd z (by rw[hz];rfl))
    ·cases h
   ·obtain⟨a,ha,h⟩:=aj h
    obtain⟨c,hc,h⟩:=aj h
    rw[kX ha hu,kX hc hv]
    have key:∀s'',GR op (bW Base.sig a) (bW Base.sig c)=some s''->(∀z,VS r s'' z->VS r s' z)->∃z,(guarded op t x y (.string ⟨(bW Base.sig a).toArray⟩) (.string ⟨(bW Base.sig c).toArray⟩)).run P w=.ok z w/\VV r (V.s s') z:=λs'' h1 h2=>by
     obtain⟨z,hz,hz'⟩:=MO (P:=P) (w:=w) t h1 r
     exact⟨z,by simp[guarded,eqGuard_at_string,hz],h2 z hz'⟩
    split at h
    ·obtain⟨m,hm,h⟩:=aj h
     cases hb:aib m maxStr<;>rw[hb]at h<;>simp only[aeW,aeS]at h
     ·cases h
     cases h
     have h1:=V6 hm
     have h2:=aff hb
     rw[Js,aeL]at h1
     refine key (.str (bW Base.sig a++bW Base.sig c)) ?_ λz hz=>?_
     ·unfold GR cat
      rw[agb (by omega)]
      rfl
     ·show z=_
      rw[Js]
      exact hz
    ·rcases dY h with h|h
     ·obtain⟨b,hb,h⟩:=aj h
      cases h
      have e:=TV hb
      exact key _ rfl λz hz=>hz.trans (by rw[BM,<-e])
     ·obtain⟨l,hl,h⟩:=aj h
      cases h
      have e:=Base.ok.sx _ _ _ (zY hl)
      exact key _ rfl λz hz=>hz.trans (by rw[BM,e];congr 1;simp)
    ·rcases dY h with h|h
     ·obtain⟨b,hb,h⟩:=aj h
      cases h
      have e:=TV hb
      exact key _ rfl λz hz=>hz.trans (by rw[BM,<-e])
     ·obtain⟨l,hl,h⟩:=aj h
      cases h
      have e:=Base.ok.sx _ _ _ (zY hl)
      exact key _ rfl λz hz=>hz.trans (by rw[BM,e];congr 1;simp)
    ·cases h
  ·cases h
 unfold acB at h
 split at h
 ·rename_i k a k' b h1 h2
  have e1:=A.a97 h1
  have e2:=A.a97 h2
  subst e1;subst e2
  cases hu;cases hv
  obtain⟨z,hz,hz'⟩:=ZX (P:=P) (w:=w) t h r
  exact⟨z,by simp[guarded,eqGuard_at_int,hz],hz'⟩
 ·rename_i a b h1 h2
  have e1:=A.a9j h1
  have e2:=A.a9j h2
  subst e1;subst e2
  cases hu;cases hv
  obtain⟨z,hz,hz'⟩:=MO (P:=P) (w:=w) t h r
  exact⟨z,by simp[guarded,eqGuard_at_string,hz],hz'⟩
 ·unfold a8L at h
  split at h
  ·obtain⟨b,hb,h⟩:=aj h
   cases h
   cases b<;>exact⟨_,Qv hty (.inl rfl) hu hv hb,by simp[VV,VA,VS,Q.val]⟩
  ·obtain⟨b,hb,h⟩:=aj h
   cases h
   cases b<;>exact⟨_,Qv hty (.inr rfl) hu hv hb,by simp[VV,VA,VS,Q.val]⟩
  ·cases h
 ·cases h
theorem wrap_in (k:IntKind){n:Int}(h1:k.min<=n)(h2:n<=k.max):k.wrap n=n:=by
 cases k<;>simp[IntKind.min,IntKind.max,IntKind.signed,IntKind.bits]at h1 h2<;>simp[IntKind.wrap,IntKind.bits,IntKind.signed]<;>(try split)<;>omega
theorem aby {r:Ren}{op:UnOp}{x:S}{u:Value}(hu:VS r x u){s:V}(h:un op x=some s):∃z,(Op.unary op u).run P w=.ok z w/\VV r s z:=by
 unfold un at h
 split at h
 ·cases h;cases hu
  exact⟨_,rfl,rfl⟩
 ·rename_i l b
  cases h;cases hu
  refine⟨_,rfl,?_⟩
  show _=_
  cases b<;>simp
 ·obtain⟨b,hb,h⟩:=aj h
  cases h
  rw[o8 hb hu]
  exact⟨_,rfl,rfl⟩
 ·cases h
theorem Ut {ty:Tys}(hty:eY P ty){r:Ren}{src dst:TypeId}{Sx T:Ty}(hS:ty src=some Sx)(hT:ty dst=some T){x:S}{u:Value}(hu:VS r x u){s:V}(h:Nl T.d x=some s):∃z,(convert src dst u).run P w=.ok z w/\VV r s z:=by
 obtain⟨i,d,z,hi,hd,hz,h1,_⟩:=hty dst T hT
 obtain⟨i',d',z',hi',hd',hz',h1',_⟩:=hty src Sx hS
 unfold Nl at h
 split at h
 ·rename_i k q n hD
  cases h
  cases hu
  rw[hD]at h1
  obtain rfl:=FY h1.symm
  refine⟨_,?_,rfl⟩
  simp only[convert,ahJ,ahG hd,ahG hd',ahH]
  cases d'<;>rfl
 ·rename_i s' hD
  cases h
  cases hu
  rw[hD]at h1
  obtain rfl:=wE h1.symm
  refine⟨_,?_,rfl⟩
  simp only[convert,ahJ,ahG hd,ahG hd',ahH]
  cases d'<;>rfl
 ·rename_i k q j hD
  obtain⟨p,hp,h⟩:=aj h
  cases hc:(decide (k.min<=p.1)&&decide (p.2<=k.max))<;>rw[hc]at h<;>simp only[aeW,aeS]at h
  ·cases h
  cases h
  cases hu
  rw[hD]at h1
  obtain rfl:=FY h1.symm
  have hj:=Base.ok.iv _ _ hp
  simp only[aeI,af6]at hc
  have hw:k.wrap (Base.rho j)=Base.rho j:=wrap_in k (by omega) (by omega)
  refine⟨.int k (k.wrap (Base.rho j)),?_,by rw[hw];rfl⟩
  simp only[convert,ahJ,ahG hd,ahG hd',ahH]
  cases d'<;>rfl
 ·rename_i l hD
  cases h
  cases hu
  rw[hD]at h1
  obtain rfl:=wE h1.symm
  refine⟨_,?_,rfl⟩
  simp only[convert,ahJ,ahG hd,ahG hd',ahH]
  cases d'<;>rfl
 ·cases h
theorem Um {r:Ren}{v:V}{u:Value}(hu:VV r v u){i:Nat}{s:V}(h:V.rec (λ_=>none) (λl=>ob (nth l i) vA) none v=some s):∃z,(Instr.extract u i).run P w=.ok z w/\VV r s z:=by
 cases v with
 |a x=>cases h
 |t l=>
  obtain⟨y,hy,hs⟩:=aj (show ob (nth l i) vA=some s from h)
  cases hs
  obtain⟨vs,rfl,hl⟩:=hu
  obtain⟨z,hz,hz'⟩:=au.nth hl hy
  exact⟨z,by simp[Instr.extract,hz],hz'⟩
 |any=>cases h
theorem zG {ty:Tys}(hty:eY P ty){s:TypeId}{f:Nat}{q:Nat×Ty}(h:yK ty s f=some q):
  ∃F fd,P.underlying s=some (.struct F)/\F[f]? =some fd/\fd.offset=q.1/\ty fd.type=some q.2:=by
 obtain⟨T,hT,h⟩:=aj h
 obtain⟨i,d,z,hi,hd,hz,h1,_⟩:=hty s T hT
 cases hD:T.d<;>rw[hD]at h<;>simp only at h<;>(try(cases h;done))
 rw[hD]at h1
 obtain⟨F,rfl,hF⟩:=TU h1.symm
 obtain⟨p,hp,h⟩:=aj h
 obtain⟨G,hG,h⟩:=aj h
 cases h
 rw[hF,aI]at hp
 simp only[aeT,afx,afV]at hp
 obtain⟨fd,hfd,rfl⟩:=hp
 exact⟨F,fd,hd,hfd,rfl,hG⟩
theorem iC {ty:Tys}(hty:eY P ty){t:TypeId}{T:Ty}(hT:ty t=some T):(sizeOf t).run P w=.ok T.size w:=by
 obtain⟨i,d,z,hi,hd,hz,h1,h2,_⟩:=hty t T hT
 simp[sizeOf,typeInfo,hi,h2]
theorem Addr.uf (r:Ren)(l o k:Nat):(r.at l o).add k=r.at l (o+k):=by
 unfold Addr.add Ren.at
 split
 ·simp_all
 ·simp[afZ]
theorem OH {ty:Tys}(hty:eY P ty){r:Ren}{s:TypeId}{f:Nat}{l o:Nat}(hl:r.ok l){q:Nat×Ty}(hq:yK ty s f=some q)(hz:(q.2.size==0)=false):
  ∃z,(Instr.fieldAt s (.pointer (some (r.at l o))) f).run P w=.ok z w/\VV r (V.s (.ptr l (o+q.1))) z:=by
 obtain⟨F,fd,hu,hf,ho,ht⟩:=zG hty hq
 have hs:=iC (w:=w) hty ht
 refine⟨.pointer (some (r.at l (o+q.1))),?_,hl,rfl⟩
 have h0:q.2.size≠0:=by simpa using hz
 simp[Instr.fieldAt,ahG hu,hf,Instr.sureAddr,fieldPlace,hs,h0,Addr.uf,ho]
theorem a3L {ty:Tys}(hty:eY P ty){r:Ren}{s:TypeId}{f:Nat}{cs:List S}{us:List Value}(hc:au (VS r) cs us){q:Nat×Ty}(hq:yK ty s f=some q){c:List S}(he:ext cs q.1 q.2.size=some c){x:A}(hm:q.2.mk' c=some x):
  ∃z,(Instr.field s (.agg us.toArray) f).run P w=.ok z w/\VA r x z:=by
 obtain⟨F,fd,hu,hf,ho,ht⟩:=zG hty hq
 obtain⟨u,hu1,hu2,_⟩:=yO (w:=w) hty ht hc he hm
 exact⟨u,by simp[Instr.field,ahG hu,hf,asAgg,ho,hu1],hu2⟩
theorem O3 {n:Int}{len i:Nat}(h:idx n len=some i):n=i/\i<len:=by
 cases n with
 |ofNat k=>
  have h':(bif aif k len then some k else none)=some i:=h
  cases hb:aif k len<;>rw[hb]at h'<;>cases h'
  exact⟨rfl,aff hb⟩
 |negSucc k=>cases h
theorem DZ {n:Int}{len i:Nat}(h:bnd n len=some i):n=i/\i<=len:=by
 cases n with
 |ofNat k=>
  have h':(bif aib k len then some k else none)=some i:=h
  cases hb:aib k len<;>rw[hb]at h'<;>cases h'
  exact⟨rfl,aff hb⟩
 |negSucc k=>cases h
theorem jw {ty:Tys}(hty:eY P ty){t:TypeId}{E:Ty}(h:elemOf ty t=some E):∃e,P.underlying t=some (.slice e)/\ty e=some E:=by
 obtain⟨T,hT,h⟩:=aj h
 obtain⟨i,d,z,hi,hd,hz,h1,_⟩:=hty t T hT
 cases hD:T.d<;>rw[hD]at h<;>simp only at h<;>(try(cases h;done))
 rw[hD]at h1
 exact⟨_,hd.trans (by rw[Uo h1.symm]),h⟩
theorem Dv {ty:Tys}(hty:eY P ty){t:TypeId}{q:Nat×Ty}(h:Qd ty t=some q):∃e,P.underlying t=some (.array q.1 e)/\ty e=some q.2:=by
 obtain⟨T,hT,h⟩:=aj h
 obtain⟨i,d,z,hi,hd,hz,h1,_⟩:=hty t T hT
 cases hD:T.d<;>rw[hD]at h<;>simp only at h<;>(try(cases h;done))
 obtain⟨E,hE,h⟩:=aj h
 cases h
 rw[hD]at h1
 exact⟨_,hd.trans (by rw[G8 h1.symm]),hE⟩
theorem Oo {ty:Tys}(hty:eY P ty){r:Ren}{t:TypeId}{k:IntKind}{n:Int}{x:S}{u:Value}(hu:VS r x u){s:V}(h:zD ty t n x=some s):
  ∃z,(Instr.indexAt t u (.int k n)).run P w=.ok z w/\VV r s z:=by
 unfold zD at h
 split at h
 ·rename_i l o
  obtain⟨q,hq,h⟩:=aj h
  obtain⟨i,hi,h⟩:=aj h
  cases h
  obtain⟨e,he,hE⟩:=Dv hty hq
  obtain⟨rfl,hlt⟩:=O3 hi
  obtain⟨hl,rfl⟩:=hu
  have hs:=iC (w:=w) hty hE
  refine⟨_,?_,hl,rfl⟩
  have h0:(0:Int)<=(i:Int)/\(i:Int)<(q.1:Int):=by omega
  simp[Instr.indexAt,asIntOf,ahG he,Instr.sureAddr,hlt,hs,Addr.uf]
 ·rename_i l o m z c
  obtain⟨E,hE,h⟩:=aj h
  obtain⟨i,hi,h⟩:=aj h
  cases hz:(E.size==z)<;>rw[hz]at h<;>cases h
  obtain⟨e,he,hE'⟩:=jw hty hE
  obtain⟨rfl,hlt⟩:=O3 hi
  have hs:=iC (w:=w) hty hE'
  have hz':E.size=z:=by simpa using hz
  have hsl:∃cc,u=.slice (some (r.at l o)) m cc/\r.ok l:=by
   cases c with
   |none=>exact⟨_,hu.2.2.2,hu.1⟩
   |some c=>exact⟨_,hu.2.2.2,hu.1⟩
  obtain⟨cc,rfl,hl⟩:=hsl
  refine⟨_,?_,hl,rfl⟩
  simp[Instr.indexAt,asIntOf,ahG he,hlt,hs,Addr.uf,hz']
 ·cases h
theorem Kr {ty:Tys}(hty:eY P ty){r:Ren}{t:TypeId}{i x:S}{n u:Value}(hu:VS r x u)(hn:VS r i n){s:V}(h:Aw ty t i x=some s):
  ∃z,(Instr.indexAt t u n).run P w=.ok z w/\VV r s z:=by
 unfold Aw at h
 split at h
 ·rename_i k j l o
  obtain⟨q,hq,h⟩:=aj h
  obtain⟨p,hp,h⟩:=aj h
  cases hc:(q.2.size==1&&decide (0<=p.1)&&decide (p.2<q.1))<;>rw[hc]at h<;>cases h
  simp only[aeI,af6,ag4]at hc
  obtain⟨e,he,hE⟩:=Dv hty hq
  have hs:=iC (w:=w) hty hE
  obtain⟨h1,h2⟩:=Base.ok.iv _ _ hp
  obtain⟨hl,rfl⟩:=hu
  cases hn
  have h0:(0:Int)<=Base.rho j/\Base.rho j<(q.1:Int):=by omega
  refine⟨_,?_,hl,h0.1,h0.2,rfl⟩
  obtain⟨m,hm⟩:∃m:Nat,Base.rho j=m:=⟨_,(ah0 h0.1).symm⟩
  rw[hm]at h0 |-
  have hlt:m<q.1:=by omega
  simp[Instr.indexAt,asIntOf,ahG he,Instr.sureAddr,hlt,hs,Addr.uf,hc.1.1]
 ·cases h
theorem Kt {ty:Tys}(hty:eY P ty){r:Ren}{t:TypeId}{i x:S}{n u:Value}(hu:VS r x u)(hn:VS r i n){s:V}(h:Jk ty t i x=some s):
  ∃z,(Instr.indexAt t u n).run P w=.ok z w/\VV r s z:=by
 rcases dY h with h|h
 ·obtain⟨m,hm,h⟩:=aj h
  unfold S.isInt at hm
  split at hm<;>cases hm
  cases hn
  exact Oo hty hu h
 ·exact Kr hty hu hn h
theorem NJ {ty:Tys}(hty:eY P ty){r:Ren}{t:TypeId}{k:IntKind}{n:Int}{cs:List S}{us:List Value}(hc:au (VS r) cs us){s:V}(h:PE ty t n cs=some s):
  ∃z,(Instr.index t (.agg us.toArray) (.int k n)).run P w=.ok z w/\VV r s z:=by
 obtain⟨q,hq,h⟩:=aj h
 obtain⟨i,hi,h⟩:=aj h
 obtain⟨c,he,h⟩:=aj h
 obtain⟨x,hm,h⟩:=aj h
 cases h
 obtain⟨e,hu,hE⟩:=Dv hty hq
 obtain⟨rfl,hlt⟩:=O3 hi
 have hs:=iC (w:=w) hty hE
 obtain⟨u,hu1,hu2,_⟩:=yO (w:=w) hty hE hc he hm
 exact⟨u,by simp[Instr.index,asIntOf,ahG hu,hlt,hs,hu1],hu2⟩
theorem N8 {ty:Tys}(hty:eY P ty){t:TypeId}(h:nV ty t=true):P.underlying t=some .string:=by
 unfold nV at h
 cases hT:ty t with
 |none=>rw[hT]at h;cases h
 |some T=>
  rw[hT]at h
  obtain⟨i,d,z,hi,hd,hz,h1,_⟩:=hty t T hT
  cases hD:T.d<;>simp only[hD]at h<;>(try(cases h;done))
  rw[hD]at h1
  exact hd.trans (by rw[wE h1.symm])
theorem Ol {ty:Tys}(hty:eY P ty){r:Ren}{t:TypeId}{k:IntKind}{n:Int}{x:S}{u:Value}(hu:VS r x u){s:V}(h:indexStr ty t n x=some s):
  ∃z,(Instr.index t u (.int k n)).run P w=.ok z w/\VV r s z:=by
 unfold indexStr at h
 split at h
 ·rename_i b
  obtain⟨T,hT,h⟩:=aj h
  obtain⟨i,d,z,hi,hd,hz,h1,_⟩:=hty t T hT
  cases hD:T.d<;>simp only[hD]at h<;>(try(cases h;done))
  rw[hD]at h1
  obtain rfl:=wE h1.symm
  obtain⟨j,hj,h⟩:=aj h
  obtain⟨c,hc,h⟩:=aj h
  cases h
  cases hu
  obtain⟨rfl,hlt⟩:=O3 hj
  rw[aI]at hc
  have hb:(⟨b.toArray⟩:ByteArray)[j]? =some c:=by
   have hsz:j<(⟨b.toArray⟩:ByteArray).size:=by rw[yI];exact hlt
   rw[getElem?_pos (⟨b.toArray⟩:ByteArray) j hsz]
   simp only[aeK hlt,afI]at hc
   rw[<-hc]
   rfl
  exact⟨_,by simp[Instr.index,asIntOf,ahG hd,hb],rfl⟩
 ·cases h
def OV:Option Int->Option Value->Prop
 |none,none=>True
 |some n,some v=>∃k,v=.int k n
 |_,_=>False
theorem nN {isS:Bool}{len cap:Nat}{lo hi:Option Int}{vl vh:Option Value}(hl:OV lo vl)(hh:OV hi vh){h l:Nat}(e1:bnd (oi hi len) cap=some h)(e2:bnd (oi lo 0) h=some l):
  (Instr.sliceBounds isS len cap vl vh none).run P w=.ok (l,h,cap) w/\l<=h/\h<=cap:=by
 obtain⟨g1,g2⟩:=DZ e1
 obtain⟨g3,g4⟩:=DZ e2
 refine⟨?_,g4,g2⟩
 cases hi with
 |none=>
  cases vh with
  |some v=>exact hh.elim
  |none=>
   have g1:len=h:=by
    have:(len:Int)=h:=by simpa[oi]using g1
    omega
   subst g1
   cases lo with
   |none=>cases vl with
    |some v=>exact hl.elim
    |none=>
     have:l=0:=by have:(0:Int)=l:=g3;omega
     subst this
     simp[Instr.sliceBounds]
   |some n=>cases vl with
    |none=>exact hl.elim
    |some v=>
     obtain⟨k,rfl⟩:=hl
     obtain rfl:n=l:=g3
     simp[Instr.sliceBounds,ahO w k (l:Int) len _ (by omega) (by omega)]
 |some m=>
  cases vh with
  |none=>exact hh.elim
  |some v=>
   obtain⟨k',rfl⟩:=hh
   obtain rfl:m=h:=g1
   cases lo with
   |none=>cases vl with
    |some v=>exact hl.elim
    |none=>
     have:l=0:=by have:(0:Int)=l:=g3;omega
     subst this
     simp[Instr.sliceBounds,ahO w k' (h:Int) cap _ (by omega) (by omega)]
   |some n=>cases vl with
    |none=>exact hl.elim
    |some v=>
     obtain⟨k,rfl⟩:=hl
     obtain rfl:n=l:=g3
     simp[Instr.sliceBounds,ahO w k (l:Int) h _ (by omega) (by omega),ahO w k' (h:Int) cap _ (by omega) (by omega)]
theorem Fp {len cap:Nat}{lo:Option Int}{vl:Option Value}{hn mn:Int}{kh km:IntKind}(hl:OV lo vl){m h l:Nat}{isS:Bool}(e0:bnd mn cap=some m)(e1:bnd hn m=some h)(e2:bnd (oi lo 0) h=some l):
  (Instr.sliceBounds isS len cap vl (some (.int kh hn)) (some (.int km mn))).run P w=.ok (l,h,m) w/\l<=h/\h<=m:=by
 obtain⟨rfl,g0⟩:=DZ e0
 obtain⟨rfl,g2⟩:=DZ e1
 obtain⟨g3,g4⟩:=DZ e2
 refine⟨?_,g4,g2⟩
 cases lo with
 |none=>cases vl with
  |some v=>exact hl.elim
  |none=>
   have:l=0:=by have:(0:Int)=l:=g3;omega
   subst this
   simp[Instr.sliceBounds,ahO w km (m:Int) cap _ (by omega) (by omega),ahO w kh (h:Int) m _ (by omega) (by omega)]
 |some n=>cases vl with
  |none=>exact hl.elim
  |some v=>
   obtain⟨k,rfl⟩:=hl
   obtain rfl:n=l:=g3
   simp[Instr.sliceBounds,ahO w km (m:Int) cap _ (by omega) (by omega),ahO w kh (h:Int) m _ (by omega) (by omega),ahO w k (l:Int) h _ (by omega) (by omega)]
theorem Jj {r:Ren}{l o z k h m:Nat}(hl:r.ok l)(hz:0<z)(hk:k<=h)(hm:h<=m){c:Option Nat}{s:S}(hs:U0 l o z k h c=some s)
  (hc:c=some (m-k)\/(c=none/\m=(r.cap l-o)/z/\m<=maxLen)):VS r s (.slice (if m=k then some (r.at l o)else some (r.at l (o+k*z))) (h-k) (m-k)):=by
 unfold U0 at hs
 cases hb:(h==k)<;>rw[hb]at hs<;>cases hs
 ·have hne:h≠k:=by simpa using hb
  rw[afc (by omega)]
  rcases hc with rfl|⟨rfl,hm'⟩
  ·exact⟨hl,hz,by omega,rfl⟩
  ·have e:(r.cap l-(o+k*z))/z=m-k:=by
    rw[hm'.1,<-Nat.sub_sub,Nat.mul_comm,Nat.sub_mul_div]
   exact⟨hl,⟨hz,by rw[e];have:=hm'.2;omega⟩,by rw[e];omega,by rw[e]⟩
 ·have hne:h=k:=by simpa using hb
  subst hne
  rw[Nat.sub_self]
  split
  ·exact⟨_,_,rfl⟩
  ·exact⟨_,_,rfl⟩
theorem uD {len cap:Nat}{lo hi:Option Int}{k:Nat->Nat->Option S}{s:S}(h:JV len cap lo hi k=some s):∃q p,bnd (oi hi len) cap=some q/\bnd (oi lo 0) q=some p/\k p q=some s:=by
 obtain⟨q,hq,h⟩:=aj h
 obtain⟨p,hp,h⟩:=aj h
 exact⟨q,p,hq,hp,h⟩
theorem DR {r:Ren}{l o n z C:Nat}{c:Option Nat}(hl:r.ok l)(hz:0<z)(hc:c=some C\/(c=none/\C=(r.cap l-o)/z/\C<=maxLen))(hn:n<=C){lo hi mx:Option Int}{vl vh vm:Option Value}
  (ol:OV lo vl) (oh:OV hi vh) (om:OV mx vm) {s:S} (hs:U5 l o n z c lo hi mx=some s) (isS:Bool):
  ∃h k m,(Instr.sliceBounds isS n C vl vh vm).run P w=.ok (k,h,m) w/\VS r s (.slice (if m=k then some (r.at l o)else some (r.at l (o+k*z))) (h-k) (m-k)):=by
 cases mx with
 |none=>
  cases vm with
  |some v=>exact om.elim
  |none=>
   rcases hc with rfl|⟨rfl,rfl,hmx⟩
   ·obtain⟨h,k,e1,e2,hs⟩:=uD (show JV n C lo hi (λk h=>U0 l o z k h (some (C-k)))=some s from hs)
    obtain⟨hr,g1,g2⟩:=nN (P:=P) (w:=w) (isS:=isS) ol oh e1 e2
    exact⟨h,k,C,hr,Jj hl hz g1 g2 hs (.inl rfl)⟩
   ·obtain⟨h,k,e1,e2,hs⟩:=uD (show JV n n lo hi (λk h=>U0 l o z k h none)=some s from hs)
    have e1':bnd (oi hi n) ((r.cap l-o)/z)=some h:=by
     obtain⟨g,g'⟩:=DZ e1
     rw[g]
     show(bif aib h _ then some h else none)=some h
     rw[agb (afv g' hn)];rfl
    obtain⟨hr,g1,g2⟩:=nN (P:=P) (w:=w) (isS:=isS) ol oh e1' e2
    exact⟨h,k,_,hr,Jj hl hz g1 g2 hs (.inr ⟨rfl,rfl,hmx⟩)⟩
 |some mn=>
  cases vm with
  |none=>exact om.elim
  |some v=>
   obtain⟨km,rfl⟩:=om
   obtain⟨C',hC',hs⟩:=aj (show a3M l o n z c lo hi mn=some s from hs)
   rcases hc with rfl|⟨rfl,_⟩
   ·cases hC'
    obtain⟨m,e0,hs⟩:=aj hs
    obtain⟨hn',rfl,hs⟩:=aj hs
    obtain⟨h,k,e1,e2,hs⟩:=uD hs
    cases vh with
    |none=>exact oh.elim
    |some v=>
     obtain⟨kh,rfl⟩:=oh
     obtain⟨hr,g1,g2⟩:=Fp (P:=P) (w:=w) (isS:=isS) (len:=n) (kh:=kh) (km:=km) ol e0 e1 e2
     exact⟨h,k,m,hr,Jj hl hz g1 g2 hs (.inl rfl)⟩
   ·cases hC'
theorem Qy {ty:Tys}(hty:eY P ty){r:Ren}{t:TypeId}{lo hi mx:Option Int}{vl vh vm:Option Value}(ol:OV lo vl)(oh:OV hi vh)(om:OV mx vm){x:S}{u:Value}(hu:VS r x u){s:S}
  (h:TR ty t lo hi mx x=some s):∃z,(Instr.sliceAt t u vl vh vm).run P w=.ok z w/\VS r s z:=by
 unfold TR at h
 split at h
 ·rename_i l o
  obtain⟨q,hq,h⟩:=aj h
  cases hz:(q.2.size==0)<;>rw[hz]at h<;>simp only[aeW,aeS]at h
  ·have hz':0<q.2.size:=ahn (by simpa using hz)
   obtain⟨e,hd,hE⟩:=Dv hty hq
   obtain⟨hl,rfl⟩:=hu
   have hsz:=iC (w:=w) hty hE
   obtain⟨hh,k,m,hr,hv⟩:=DR (P:=P) (w:=w) hl hz' (.inl rfl) (aeM _) ol oh om h false
   refine⟨_,?_,hv⟩
   simp only[Instr.sliceAt,ahJ,ahG hd,ahH,Instr.sureAddr,ahL,hr,hsz,Addr.uf]
   congr 2
   split<;>rfl
  ·cases h
 ·rename_i b
  cases ht:nV ty t<;>rw[ht]at h<;>simp only[aeW,aeS]at h
  ·cases h
  ·have hd:=N8 hty ht
   cases mx with
   |some m=>cases h
   |none=>
    cases vm with
    |some v=>exact om.elim
    |none=>
     obtain⟨q,p,e1,e2,hs⟩:=uD (show JV b.length b.length lo hi (λl h=>some (.str ((b.take h).drop l)))=some s from h)
     cases hs
     cases hu
     obtain⟨hr,g1,g2⟩:=nN (P:=P) (w:=w) (isS:=false) ol oh e1 e2
     refine⟨.string ((⟨b.toArray⟩:ByteArray).extract p q),?_,?_⟩
     ·simp[Instr.sliceAt,Instr.slice,ahG hd,yI,hr]
     ·show Value.string _=Value.string _
      congr 1
      apply ByteArray.ext
      simp[List.drop_take,List.extract_eq_take_drop]
 ·rename_i l o n z c
  obtain⟨E,hE,h⟩:=aj h
  cases hz:(E.size==z)<;>rw[hz]at h<;>simp only[aeW,aeS]at h
  ·cases h
  ·have hz':E.size=z:=by simpa using hz
   obtain⟨e,hd,hE'⟩:=jw hty hE
   have hsz:=iC (w:=w) hty hE'
   cases c with
   |none=>
    obtain⟨hl,⟨hzp,hmx⟩,hn,rfl⟩:=hu
    obtain⟨hh,k,m,hr,hv⟩:=DR (P:=P) (w:=w) hl hzp (.inr ⟨rfl,rfl,hmx⟩) hn ol oh om h true
    refine⟨_,?_,hv⟩
    simp only[Instr.sliceAt,Instr.slice,ahJ,ahG hd,ahH,ahL,hr,hsz,hz',agn,Addr.uf]
   |some C=>
    obtain⟨hl,hzp,hn,rfl⟩:=hu
    obtain⟨hh,k,m,hr,hv⟩:=DR (P:=P) (w:=w) hl hzp (.inl rfl) hn ol oh om h true
    refine⟨_,?_,hv⟩
    simp only[Instr.sliceAt,Instr.slice,ahJ,ahG hd,ahH,ahL,hr,hsz,hz',agn,Addr.uf]
 ·obtain⟨E,hE,h⟩:=aj h
  obtain⟨e,hd,hE'⟩:=jw hty hE
  have hsz:=iC (w:=w) hty hE'
  cases mx with
  |some m=>cases h
  |none=>
   cases vm with
   |some v=>exact om.elim
   |none=>
    obtain⟨q,p,e1,e2,hs⟩:=uD (show JV 0 0 lo hi (λ_ _=>some .uQ)=some s from h)
    cases hs
    cases hu
    obtain⟨hr,g1,g2⟩:=nN (P:=P) (w:=w) (isS:=true) ol oh e1 e2
    obtain rfl:q=0:=by omega
    obtain rfl:p=0:=by omega
    exact⟨.slice none 0 0,by simp[Instr.sliceAt,Instr.slice,ahG hd,hr,hsz],rfl⟩
 ·cases h
theorem DY (off:Nat):∀(vs:List Value) (k:Nat) (C:Array Value),off+k+vs.length<=C.size->
  ((vs.zipIdx k).foldl (λcs (p:Value×Nat)=>cs.setIfInBounds (off+p.2) p.1) C).toList=C.toList.take (off+k)++(vs++C.toList.drop (off+k+vs.length))
 |[],k,C,_=>by simp
 |v::vs,k,C,h=>by
  simp only[afi]at h
  simp only[List.zipIdx_cons,ahy]
  rw[DY off vs (k+1) _ (by simp;omega)]
  simp only[agy]
  have e1:(C.toList.set (off+k) v).take (off+(k+1))=C.toList.take (off+k)++[v]:=by
   rw[show off+(k+1)=off+k+1 by omega,afN (by simp;omega)]
   simp[List.take_set_of_le]
  have e2:(C.toList.set (off+k) v).drop (off+(k+1)+vs.length)=C.toList.drop (off+k+(vs.length+1)):=by
   rw[List.drop_set_of_lt (by omega)]
   congr 1
   omega
  rw[e1,e2]
  simp
theorem FV {r:Ren}(pl:Nat->Option (Nat×Nat)):∀{ps:List (Nat×A)} {qs:List (Nat×Value)} {cs:List S} {C:Array Value} {out:List S},au (λp q=>p.1=q.1/\VA r p.2 q.2) ps qs->au (VS r) cs C.toList->
  fill pl ps cs=some out->∃D,Instr.fill pl C qs=some D/\au (VS r) out D.toList
 |[],[],cs,C,out,_,hc,h=>by cases h;exact⟨C,rfl,hc⟩
 |[],_::_,_,_,_,h,_,_=>h.elim
 |_::_,[],_,_,_,h,_,_=>h.elim
 |(i,v)::ps,(j,u)::qs,cs,C,out,hp,hc,h=>by
  obtain⟨⟨rfl,hv⟩,hp⟩:=hp
  obtain⟨q,hq,h⟩:=aj (show ob (pl i) (λq=>bif v.cells.length==q.2&&aib (q.1+q.2) cs.length then ob (lay cs q.1 v.cells) (fill pl ps)else none)=some out from h)
  cases hz:(v.cells.length==q.2&&aib (q.1+q.2) cs.length)<;>rw[hz]at h<;>simp only[aeW,aeS]at h
  ·cases h
  obtain⟨cs',hl,h⟩:=aj h
  have hvc:=VA.cells hv
  have hlen:=hvc.len
  have hclen:=hc.len
  simp only[Array.length_toList]at hlen hclen
  obtain⟨_,rfl⟩:=UK hl
  simp only[aeI,ag4]at hz
  obtain⟨hz1,hz2⟩:=hz
  have hz2:=aff hz2
  have hbad:¬(u.cells.size≠q.2\/q.1+u.cells.size>C.size):=by omega
  let D:=u.cells.zipIdx.foldl (λcs (p:Value×Nat)=>cs.setIfInBounds (q.1+p.2) p.1) C
  have hD:D.toList=C.toList.take q.1++(u.cells.toList++C.toList.drop (q.1+u.cells.toList.length)):=by
   show(u.cells.zipIdx.foldl _ C).toList=_
   rw[<-Array.foldl_toList,Array.toList_zipIdx]
   have:=DY q.1 u.cells.toList 0 C (by simp;omega)
   simpa using this
  have hc':au (VS r) (cs.take q.1++(v.cells++cs.drop (q.1+v.cells.length))) D.toList:=by
   rw[hD]
   refine(hc.take _).app (hvc.app ?_)
   rw[show u.cells.toList.length=v.cells.length by simp;omega]
   exact hc.drop _
  obtain⟨E,hE,hE'⟩:=FV pl hp hc' h
  refine⟨E,?_,hE'⟩
  simp only[Instr.fill,hq]
  rw[afc (by simpa using hbad)]
  exact hE
theorem zZ {r:Ren}{fr:Fr}{a:Act}(hf:FR r fr a):∀{l:List (Nat×Operand)} {ps:List (Nat×A)},yS fr l=some ps->au (λp q=>p.1=q.1/\VA r p.2 q.2) ps (l.map λp=>(p.1,a.eval p.2))
 |[],ps,h=>by cases h;trivial
 |p::l,ps,h=>by
  obtain⟨y,hy,h⟩:=aj (show ob (ob (evA fr p.2) λv=>some (p.1,v)) (λy=>ob (yS fr l) λr=>some (y::r))=some ps from h)
  obtain⟨q,hq,h⟩:=aj h
  cases h
  obtain⟨v,hv,hy⟩:=aj hy
  cases hy
  exact⟨⟨rfl,qW hf hv⟩,zZ hf hq⟩
theorem a2i {ty:Tys}(hty:eY P ty){r:Ren}{t:TypeId}{T:Ty}(hT:ty t=some T){ps:List (Nat×A)}{qs:List (Nat×Value)}(hp:au (λp q=>p.1=q.1/\VA r p.2 q.2) ps qs){s:V}(h:TA ty T ps=some s):
  ∃z,(Instr.build t qs.toArray).run P w=.ok z w/\VV r s z:=by
 obtain⟨i,d,z,hi,hd,hz,h1,h2,h3,h4,h5⟩:=hty t T hT
 have hzr:(zeroValue t).run P w=.ok z w:=by simp[zeroValue,typeInfo,hi,hz]
 unfold TA at h
 cases hD:T.d<;>simp only[hD]at h<;>(try(cases h;done))
 ·rename_i m e
  obtain⟨E,hE,h⟩:=aj h
  obtain⟨cs,hcs,h⟩:=aj h
  cases h
  rw[hD]at h1
  obtain rfl:=G8 h1.symm
  obtain⟨D,hDf,hDc⟩:=FV (r:=r) _ hp (h5 r) hcs
  have hs:=iC (w:=w) hty hE
  refine⟨.agg D,?_,⟨D.toList,by simp,hDc⟩⟩
  simp[Instr.build,hzr,ahG hd,hs,hDf]
 ·rename_i fs
  obtain⟨pl,hpl,h⟩:=aj h
  obtain⟨cs,hcs,h⟩:=aj h
  cases h
  rw[hD]at h1
  obtain⟨F,rfl,hF⟩:=TU h1.symm
  have hpls:=Jb hpl
  rw[hF]at hpls
  have hm:∀(l:List Field) (pl:List (Nat×Nat)),au (λx y=>Vx ty x=some y) (l.map λf=>(f.offset,f.type)) pl->
    ∀w,(l.mapM λf=>Functor.map (Prod.mk f.offset) (sizeOf f.type):Sem (List (Nat×Nat))).run P w=.ok pl w:=by
   intro l
   induction l with
   |nil=>intro pl hp w;cases pl with
    |nil=>simp
    |cons y pl=>exact hp.elim
   |cons f l ih=>intro pl hp w;cases pl with
    |nil=>exact hp.elim
    |cons y pl=>
     obtain⟨hy,hp⟩:=hp
     obtain⟨G,hG,hy⟩:=aj hy
     cases hy
     have hs:=iC (w:=w) hty hG
     rw[List.mapM_cons]
     simp[hs,ih pl hp w]
  have hmF:(F.mapM λf=>Functor.map (Prod.mk f.offset) (sizeOf f.type):Sem (Array (Nat×Nat))).run P w=.ok pl.toArray w:=by
   rw[Array.mapM_eq_mapM_toList]
   simp[hm F.toList pl hpls w]
  obtain⟨D,hDf,hDc⟩:=FV (r:=r) _ hp (h5 r) hcs
  refine⟨.agg D,?_,⟨D.toList,by simp,hDc⟩⟩
  have hnth:nth pl=(λx=>pl[x]?):=by funext x;rw[aI]
  rw[hnth]at hDf
  simp[Instr.build,hzr,ahG hd,hmF,hDf]
theorem MI {r:Ren}{fr:Fr}{a:Act}(hf:FR r fr a):∀{l:List Operand} {cs:List (Nat×Nat)},rE (vH fr) l=some cs->(∀p∈cs,r.ok p.1)/\l.map a.eval=cs.map λp=>.pointer (some (r.at p.1 p.2))
 |[],cs,h=>by cases h;simp
 |x::l,cs,h=>by
  rw[lQ]at h
  obtain⟨y,hy,h⟩:=aj h
  obtain⟨q,hq,h⟩:=aj h
  cases h
  obtain⟨h1,h2⟩:=rG hf hy
  obtain⟨h3,h4⟩:=MI hf hq
  exact⟨by simpa using⟨h1,λa b hab=>h3 (a,b) hab⟩,by simp[h2,h4]⟩
theorem Om {r:Ren}{fr:Fr}{a:Act}(hf:FR r fr a):∀{l:List Operand} {cs:List S},rE (evS fr) l=some cs->au (VS r) cs (l.map a.eval)
 |[],cs,h=>by cases h;trivial
 |x::l,cs,h=>by
  rw[lQ]at h
  obtain⟨y,hy,h⟩:=aj h
  obtain⟨q,hq,h⟩:=aj h
  cases h
  exact⟨fQ hf hy,Om hf hq⟩
theorem X0 {r:Ren}{fr:Fr}{a:Act}(hf:FR r fr a):∀{l:List Operand} {cs:List A},rE (evA fr) l=some cs->au (VA r) cs (l.map a.eval)
 |[],cs,h=>by cases h;trivial
 |x::l,cs,h=>by
  rw[lQ]at h
  obtain⟨y,hy,h⟩:=aj h
  obtain⟨q,hq,h⟩:=aj h
  cases h
  exact⟨qW hf hy,X0 hf hq⟩
theorem a7p {r:Ren}{x y s:S}{u v:Value}(hu:VS r x u)(hv:VS r y v)(h:abB x y=some s):∃z,(Builtin.max2 u v).run P w=.ok z w/\VS r s z:=by
 have hh:=dY h
 clear h
 rcases hh with h|h
 case inr=>
  obtain⟨k,a,b,e1,e2,h⟩:=yU h
  obtain⟨l,hl,h⟩:=aj h
  cases h
  have h1:=rY e1 hu
  have h2:=rY e2 hv
  subst h1;subst h2
  refine⟨_,rfl,?_⟩
  rw[tZ hl]
  by_cases hb:NV a<NV b
  ·simp only[hb,decide_true,aeW,agL]
   exact hv
  ·simp only[hb,decide_false,aeS,agA]
   exact hu
 unfold a98 at h
 split at h<;>cases h
 cases hu;cases hv
 rename_i k a k' b
 refine⟨_,rfl,?_⟩
 show Value.int _ _=Value.int _ _
 congr 1
 by_cases hb:b>a<;>simp[hb]
theorem a8r {r:Ren}{x y s:S}{u v:Value}(hu:VS r x u)(hv:VS r y v)(h:acP x y=some s):∃z,(Builtin.min2 u v).run P w=.ok z w/\VS r s z:=by
 have hh:=dY h
 clear h
 rcases hh with h|h
 case inr=>
  obtain⟨k,a,b,e1,e2,h⟩:=yU h
  obtain⟨l,hl,h⟩:=aj h
  cases h
  have h1:=rY e1 hu
  have h2:=rY e2 hv
  subst h1;subst h2
  refine⟨_,rfl,?_⟩
  rw[tZ hl]
  by_cases hb:NV b<NV a
  ·simp only[hb,decide_true,aeW,agL]
   exact hv
  ·simp only[hb,decide_false,aeS,agA]
   exact hu
 unfold a8S at h
 split at h<;>cases h
 cases hu;cases hv
 rename_i k a k' b
 refine⟨_,rfl,?_⟩
 show Value.int _ _=Value.int _ _
 congr 1
 by_cases hb:b<a<;>simp[hb]
theorem GU {r:Ren}{f:S->S->Option S}{g:Value->Value->Sem Value}(hfg:∀{x y s u v},VS r x u->VS r y v->f x y=some s->∃z,(g u v).run P w=.ok z w/\VS r s z):
  ∀{l:List S} {us:List Value} {x s:S} {u:Value},VS r x u->au (VS r) l us->XI f x l=some s->∃z,(us.foldlM g u).run P w=.ok z w/\VS r s z
 |[],[],x,s,u,hu,_,h=>by cases h;exact⟨u,by simp,hu⟩
 |[],_::_,_,_,_,_,h,_=>h.elim
 |_::_,[],_,_,_,_,h,_=>h.elim
 |y::l,v::us,x,s,u,hu,hl,h=>by
  obtain⟨z,hz,h⟩:=aj (show ob (f x y) (λz=>XI f z l)=some s from h)
  obtain⟨z',hz1,hz2⟩:=hfg hu hl.1 hz
  obtain⟨q,hq1,hq2⟩:=GU hfg hz2 hl.2 h
  exact⟨q,by simp[List.foldlM_cons,hz1,hq1],hq2⟩
theorem Nb {a:List Nat}{j:Nat}:∀{l:List (List Nat×Nat)},NP a l=some j->(a,j)∈l
 |[],h=>by cases h
 |(p,i)::t,h=>by
  have h:(bif iO p a then some i else NP a t)=some j:=h
  cases hc:iO p a<;>rw[hc]at h<;>simp only[aeW,aeS]at h
  ·simp[Nb h]
  ·cases h
   rw[lX hc]
   simp
theorem a4X {ty:Tys}(hty:eY P ty){r:Ren}{t:TypeId}{T:Ty}(hT:ty t=some T){x:A}{u:Value}(hu:VA r x u){v:V}(h:a2b T.d x=some v)(ts:List TypeId)(o:TypeId):
  ∃z,(Builtin.len_ (t::ts).toArray o #[u]).run P w=.ok z w/\VV r v z:=by
 obtain⟨i,d,z,hi,hd,hz,h1,_⟩:=hty t T hT
 unfold a2b at h
 split at h
 ·rename_i l hD
  obtain⟨j,hj,h⟩:=aj h
  cases h
  cases hu
  rw[hD]at h1
  obtain rfl:=wE h1.symm
  refine⟨_,by simp[Builtin.len_,ahG hd,goInt,yI];rfl,?_⟩
  show _=_
  rw[Base.ok.ln _ _ (Nb hj)]
 ·cases h
theorem a7M {ty:Tys}(hty:eY P ty){r:Ren}{t:TypeId}{T:Ty}(hT:ty t=some T){x:A}{u:Value}(hu:VA r x u){n:Nat}(h:lenD T.d x=some n)(ts:List TypeId)(o:TypeId):
  (Builtin.len_ (t::ts).toArray o #[u]).run P w=.ok (.int .i64 n) w:=by
 obtain⟨i,d,z,hi,hd,hz,h1,_⟩:=hty t T hT
 unfold lenD at h
 cases hD:T.d<;>simp only[hD]at h<;>(try(cases h;done))<;>rw[hD]at h1
 ·split at h<;>cases h
  cases hu
  obtain rfl:=wE h1.symm
  simp[Builtin.len_,ahG hd,goInt,yI]
 ·obtain rfl:=Uo h1.symm
  split at h<;>cases h
  ·rename_i l o' z' c
   have:∃aa cc,u=.slice (some aa) n cc:=by
    cases c with
    |none=>exact⟨_,_,hu.2.2.2⟩
    |some c=>exact⟨_,_,hu.2.2.2⟩
   obtain⟨aa,cc,rfl⟩:=this
   simp[Builtin.len_,ahG hd,goInt]
  ·obtain⟨aa,cc,rfl⟩:=hu
   simp[Builtin.len_,ahG hd,goInt]
  ·cases hu
   simp[Builtin.len_,ahG hd,goInt]
 ·cases h
  obtain rfl:=G8 h1.symm
  simp[Builtin.len_,ahG hd,goInt]
structure bQ (T:Tabs):Prop where
 len:∀k j,T.lenOf k=some j->∃A n c,(Base.lst k).v=.slice A n c/\Base.rho j=n
 el:∀k i cs,T.H7 k i=some cs->∃b off n c el,(Base.lst k).v=.slice (some ⟨b,off,none⟩) n c/\0<=NV i/\NV i<n/\aaj k i b (off+(NV i).toNat*cs.length) el/\au (λx v=>∀r,VS r x v) cs el
 add:∀i c j,T.EM i c=some j->Base.rho j=Base.rho i+c/\IntKind.i64.min<=Base.rho j/\Base.rho j<=IntKind.i64.max
theorem bQ.nought:bQ Tabs.nought:=⟨λ_ _ h=>(by cases h),λ_ _ _ h=>(by cases h),λ_ _ _ h=>(by cases h)⟩
theorem a8v {T:Tabs}(hT:bQ T){ty:Tys}(hty:eY P ty){r:Ren}{fr:Fr}{a:Act}(hf:FR r fr a){op:BinOp}{t:TypeId}{x y:Operand}{v:V}(h:a6v T fr op x y=some v):
  ∃z,(guarded op t x y (a.eval x) (a.eval y)).run P w=.ok z w/\VV r v z:=by
 unfold a6v at h
 split at h
 ·obtain⟨p,hp,h0⟩:=aj h
  clear h
  obtain⟨q,hq,h⟩:=aj h0
  clear h0
  have e1:=fQ hf hp
  have e2:=fQ hf hq
  clear hp hq
  have key:∃i c j,p=.xi .i64 i/\q=.int .i64 c/\T.EM i c=some j/\v=V.s (.xi .i64 j):=by
   revert h
   split
   ·intro h
    obtain⟨j,hj,h⟩:=aj h
    cases h
    exact⟨_,_,j,rfl,rfl,hj,rfl⟩
   ·intro h
    cases h
  obtain⟨i,c,j,rfl,rfl,hj,rfl⟩:=key
  obtain⟨h1,h2,h3⟩:=hT.add _ _ _ hj
  have e1':VA r (.s (.int .i64 (Base.rho i))) (a.eval x):=e1
  obtain⟨z,hz,hz'⟩:=Ob (P:=P) (w:=w) (t:=t) (op:=.add) (x:=x) (y:=y) (s:=V.s (.int .i64 (IntKind.i64.wrap (Base.rho i+c)))) hty e1' (show VA r (.s (.int .i64 c)) (a.eval y)from e2) rfl
  refine⟨z,hz,?_⟩
  have hz':z=.int .i64 (IntKind.i64.wrap (Base.rho i+c)):=hz'
  show z=.int .i64 (Base.rho j)
  rw[hz',<-h1]
  have h2:(-9223372036854775808:Int)<=Base.rho j:=h2
  have h3:Base.rho j<=(9223372036854775807:Int):=h3
  rw[ai0]
  congr 1
  omega
 ·cases h
theorem a6F {op:BinOp}{x y:S}{k:Nat}(h:aaH op x y=some k):∃a b:Int,(∀r v,VS r x v->v=.int .i64 a)/\(∀r v,VS r y v->v=.int .i64 b)/\
  ((op=.sub/\Base.rho k=a-b)\/(op=.add/\Base.rho k=a+b))/\IntKind.i64.min<=Base.rho k/\Base.rho k<=IntKind.i64.max:=by
 unfold aaH at h
 split at h
 ·obtain⟨h1,h2,h3⟩:=Base.ok.sb _ _ _ (nX h)
  exact⟨_,_,λ_ _ h=>h,λ_ _ h=>h,.inl ⟨rfl,h1.symm⟩,h2,h3⟩
 ·obtain⟨h1,h2,h3⟩:=Base.ok.ad _ _ _ (AA h)
  exact⟨_,_,λ_ _ h=>h,λ_ _ h=>h,.inr ⟨rfl,h1.symm⟩,h2,h3⟩
 ·obtain⟨h1,h2,h3⟩:=Base.ok.ad _ _ _ (AA h)
  exact⟨_,_,λ_ _ h=>h,λ_ _ h=>h,.inr ⟨rfl,by rw[<-h1];omega⟩,h2,h3⟩
 ·obtain⟨h1,h2,h3⟩:=Base.ok.xt.sm _ _ _ (nX h)
  exact⟨_,_,λ_ _ h=>h,λ_ _ h=>h,.inr ⟨rfl,h1.symm⟩,h2,h3⟩
 ·cases h
theorem a5u {ty:Tys}(hty:eY P ty){r:Ren}{fr:Fr}{a:Act}(hf:FR r fr a){op:BinOp}{t:TypeId}{x y:Operand}{v:V}(h:a9G fr op x y=some v):
  ∃z,(guarded op t x y (a.eval x) (a.eval y)).run P w=.ok z w/\VV r v z:=by
 obtain⟨p,hp,h⟩:=aj h
 obtain⟨q,hq,h⟩:=aj h
 obtain⟨k,hk,h⟩:=aj h
 cases h
 obtain⟨m,n,e1,e2,hop,h2,h3⟩:=a6F hk
 have e1:=e1 _ _ (fQ hf hp)
 have e2:=e2 _ _ (fQ hf hq)
 have h2:(-9223372036854775808:Int)<=Base.rho k:=h2
 have h3:Base.rho k<=(9223372036854775807:Int):=h3
 rcases hop with⟨rfl,ho⟩|⟨rfl,ho⟩
 ·obtain⟨z,hz,hz'⟩:=Ob (P:=P) (w:=w) (t:=t) (op:=.sub) (x:=x) (y:=y) (s:=V.s (.int .i64 (IntKind.i64.wrap (m-n)))) hty (show VA r (.s (.int .i64 m)) (a.eval x)from e1) (show VA r (.s (.int .i64 n)) (a.eval y)from e2) rfl
  refine⟨z,hz,?_⟩
  have hz':z=.int .i64 (IntKind.i64.wrap (m-n)):=hz'
  show z=.int .i64 (Base.rho k)
  rw[hz',<-ho,ai0]
  congr 1
  omega
 ·obtain⟨z,hz,hz'⟩:=Ob (P:=P) (w:=w) (t:=t) (op:=.add) (x:=x) (y:=y) (s:=V.s (.int .i64 (IntKind.i64.wrap (m+n)))) hty (show VA r (.s (.int .i64 m)) (a.eval x)from e1) (show VA r (.s (.int .i64 n)) (a.eval y)from e2) rfl
  refine⟨z,hz,?_⟩
  have hz':z=.int .i64 (IntKind.i64.wrap (m+n)):=hz'
  show z=.int .i64 (Base.rho k)
  rw[hz',<-ho,ai0]
  congr 1
  omega
theorem LD {x:S}{k:Nat}(h:x.a5X=some k):x=.rv k:=by
 cases x<;>simp[S.a5X]at h
 rw[h]
theorem KU {x:S}{p:Nat×N×Nat}(h:x.a5W=some p):x=.pe p.1 p.2.1 p.2.2:=by
 cases x<;>simp[S.a5W]at h
 rw[<-h]
theorem Zz {T:Tabs}(hT:bQ T){ty:Tys}(hty:eY P ty){r:Ren}{fr:Fr}{a:Act}(hf:FR r fr a){t:TypeId}{x i:Operand}{v:V}(h:UF T ty fr t x i=some v):
  ∃z,(Instr.indexAt t (a.eval x) (a.eval i)).run P w=.ok z w/\VV r v z:=by
 obtain⟨y,hy,h⟩:=aj h
 obtain⟨k,hk,h⟩:=aj h
 obtain⟨j,hj,h⟩:=aj h
 obtain⟨n,hn,h⟩:=aj h
 obtain⟨cs,hcs,h⟩:=aj h
 obtain⟨E,hE,h⟩:=aj h
 cases hc:aic E.size cs.length<;>rw[hc]at h<;>cases h
 have hc:=aeX hc
 obtain rfl:=LD hk
 obtain⟨e,he,hE'⟩:=jw hty hE
 have hs:=iC (w:=w) hty hE'
 obtain⟨_,_,_,hv1,hv⟩:=fQ hf hy
 rw[<-hv1]at hv
 have hi:=rY hn (fQ hf hj)
 obtain⟨b,off,m,c,el,h1,h2,h3,h4,h5⟩:=hT.el _ _ _ hcs
 obtain⟨q,hq⟩:∃q:Nat,NV n.2=q:=⟨_,(ah0 h2).symm⟩
 refine⟨.pointer (some ⟨b,off+q*cs.length,none⟩),?_,b,off+q*cs.length,el,by rw[hq]at h4;simpa using h4,rfl⟩
 rw[hv,h1,hi,hq]
 have hlt:q<m:=by omega
 simp[Instr.indexAt,asIntOf,ahG he,hlt,hs,hc,Addr.add]
theorem a0g {ty:Tys}(hty:eY P ty){r:Ren}{fr:Fr}{a:Act}(hf:FR r fr a){s:TypeId}{x:Operand}{f:Nat}{v:V}(h:Ux ty fr s x f=some v):
  ∃z,(Instr.fieldAt s (a.eval x) f).run P w=.ok z w/\VV r v z:=by
 obtain⟨y,hy,h⟩:=aj h
 obtain⟨p,hp,h⟩:=aj h
 obtain⟨q,hq,h⟩:=aj h
 cases hz:(q.2.size==0)<;>rw[hz]at h<;>cases h
 obtain rfl:=KU hp
 obtain⟨b,off,el,h1,h2⟩:=fQ hf hy
 obtain⟨F,fd,hu,hff,ho,ht⟩:=zG hty hq
 have hs:=iC (w:=w) hty ht
 have h0:q.2.size≠0:=by simpa using hz
 refine⟨.pointer (some ⟨b,off+(p.2.2+q.1),none⟩),?_,b,off,el,h1,rfl⟩
 rw[h2]
 simp[Instr.fieldAt,ahG hu,hff,Instr.sureAddr,fieldPlace,hs,h0,ho,Addr.add,afZ]
theorem a1h {T:Tabs}(hT:bQ T)(hw:Here w){ty:Tys}(hty:eY P ty){r:Ren}{fr:Fr}{a:Act}(hf:FR r fr a){t:TypeId}{x:Operand}{v:V}(h:a4M T ty fr t x=some v):
  ∃z,(Instr.loadAt t (a.eval x)).run P w=.ok z w/\VV r v z:=by
 obtain⟨y,hy,h⟩:=aj h
 obtain⟨p,hp,h⟩:=aj h
 obtain⟨cs,hcs,h⟩:=aj h
 obtain⟨U,hU,h⟩:=aj h
 obtain⟨c,hc,h⟩:=aj h
 obtain⟨m,hm,h⟩:=aj h
 cases h
 obtain rfl:=KU hp
 obtain⟨b,off,el,h1,h2⟩:=fQ hf hy
 obtain⟨_,_,_,_,el',_,_,_,h4,h5⟩:=hT.el _ _ _ hcs
 obtain rfl:el'=el:=afE (h4.1.symm.trans h1.1)
 have h5:au (VS r) cs el':=h5.imp λ_ _ h=>h r
 obtain⟨hl,rfl⟩:=ext_eq hc
 have hcells:∀j u,((el'.drop p.2.2).take U.size)[j]? =some u->w.cell? ⟨b,off+p.2.2+j,none⟩=some u:=λj u hj=>by
  rw[afZ]
  refine h1.2 _ _ ?_ w hw
  rw[afQ]at hj
  split at hj
  ·rwa[afR]at hj
  ·cases hj
 have g1:au (VS r) ((cs.drop p.2.2).take U.size) ((el'.drop p.2.2).take U.size):=(h5.drop _).take _
 obtain⟨i,d,z,hi',hd,hz,k1,k2,_⟩:=hty t U hU
 have hsz:(sizeOf t).run P w=.ok U.size w:=iC hty hU
 have ha:(isAgg t).run P w=.ok U.d.agg w:=by
  rw[k1];unfold isAgg;cases d<;>simp[ahG hd,dOf,D.agg]
 rw[h2]
 have hlen:((el'.drop p.2.2).take U.size).length=U.size:=by
  have:=g1.len
  rw[<-this,afu,agE]
  omega
 clear h5 h4 hy hp
 generalize (cs.drop p.2.2).take U.size=c at *
 generalize (el'.drop p.2.2).take U.size=us at *
 unfold Ty.mk' at hm
 cases hg:U.d.agg<;>simp only[hg,aeW,aeS]at hm
 ·match c,us,g1,hm with
  |[y],[u],g1,hm=>
   cases hm
   have hc0:=hcells 0 u rfl
   simp only[afS]at hc0
   exact⟨u,by simp[Instr.loadAt,Instr.sureAddr,loadVar,ha,hg,hc0],g1.1⟩
 ·cases hm
  have hld:(loadCells ⟨b,off+p.2.2,none⟩ U.size).run P w=.ok us.toArray w:=by
   rw[<-hlen]
   exact run_loadCells_list w _ us (λj v hv=>by rw[Addr.add_lit];exact hcells j v hv)
  exact⟨.agg us.toArray,by simp[Instr.loadAt,Instr.sureAddr,loadVar,ha,hg,hsz,hld],_,rfl,g1⟩
theorem a8g {T:Tabs}(hT:bQ T){ty:Tys}(hty:eY P ty){r:Ren}{fr:Fr}{a:Act}(hf:FR r fr a){c:Call}{v:V}(h:Yy T ty fr c.argTypes.toList c.args.toList=some v)(o:TypeId)(cs:Array Bool):
  ∃u,(builtin .len c.argTypes o cs (c.args.map a.eval)).run P w=.ok (.value u) w/\VV r v u:=by
 unfold Yy at h
 split at h
 ·rename_i t ts x ht hx
  obtain⟨E,hE,h⟩:=aj h
  obtain⟨y,hy,h⟩:=aj h
  obtain⟨k,hk,h⟩:=aj h
  obtain⟨j,hj,h⟩:=aj h
  cases h
  obtain rfl:=LD hk
  obtain⟨e,he,hE'⟩:=jw hty hE
  obtain⟨A,n,cc,h1,h2⟩:=hT.len _ _ hj
  obtain⟨_,_,_,hv1,hv⟩:=fQ hf hy
  rw[<-hv1,h1]at hv
  have e1:c.argTypes=(t::ts).toArray:=by rw[<-ht]
  have e2:c.args=#[x]:=by cases hca:c.args;rw[hca]at hx;simp at hx;rw[hx]
  refine⟨.int .i64 n,?_,by show _=_;rw[h2]⟩
  rw[e1,e2]
  simp[builtin,Builtin.len_,hv,ahG he,goInt]
 ·cases h
end
end Am
namespace Am
variable [Base]
def OpR (P:Program)(o:Oper)(a:Act)(w:World)(K:Value->World->Prop):Prop:=
 match (execOp a.eval o).run P w with
 | .ok (.value v) w'=>K v w'
 | .ok .skip w'=>K Go.undef w'
 | .ok (.enter f args) w'=>Calls P f args w' λe w''=>∃v,e=.returned v/\K v w''
 |_=>False
theorem OpR.wp {P:Program}{o:Oper}{a:Act}{w:World}{K:Value->World->Prop}(h:OpR P o a w K){next:Act->World->Prop}{Q:Exit->Act->World->Prop}
  (hn:∀v w',K v w'->next (a.put o.dst v) w'):o.wp P a w next Q:=by
 unfold OpR at h
 unfold Oper.wp
 generalize (execOp a.eval o).run P w=r at *
 cases r with
 |ok n w'=>
  cases n<;>simp only[Oper.upon]at h |- <;>first
   |exact hn _ _ h
   |exact h.elim
   |exact Calls.mono h (λe w'' he=>by obtain⟨v,rfl,hk⟩:=he;exact hn _ _ hk)
 |halt x w'=>exact h.elim
theorem OpR.mono {P:Program}{o:Oper}{a:Act}{w:World}{K K':Value->World->Prop}(h:OpR P o a w K)(hn:∀v w',K v w'->K' v w'):OpR P o a w K':=by
 unfold OpR at *
 generalize (execOp a.eval o).run P w=r at *
 cases r with
 |ok n w'=>
  cases n<;>simp only at h |- <;>first
   |exact hn _ _ h
   |exact h.elim
   |exact Calls.mono h (λe w'' he=>by obtain⟨v,rfl,hk⟩:=he;exact⟨v,rfl,hn _ _ hk⟩)
 |halt x w'=>exact h.elim
theorem OpR.val {P:Program}{o:Oper}{a:Act}{w w':World}{K:Value->World->Prop}{v:Value}(h:(execOp a.eval o).run P w=.ok (.value v) w')(k:K v w'):OpR P o a w K:=by
 unfold OpR;rw[h];exact k
theorem OpR.skip {P:Program}{o:Oper}{a:Act}{w w':World}{K:Value->World->Prop}(h:(execOp a.eval o).run P w=.ok .skip w')(k:K Go.undef w'):OpR P o a w K:=by
 unfold OpR;rw[h];exact k
section
variable {P:Program} {w:World} {ty:Tys}
theorem DU {r:Ren}{fr:Fr}{a:Act}(hf:FR r fr a){x:Option Operand}{y:Option Int}(h:Ej fr x=some y):OV y (x.map a.eval):=by
 cases x with
 |none=>cases h;trivial
 |some x=>
  obtain⟨n,hn,h⟩:=aj (show ob (yu fr x) (λn=>some (some n))=some y from h)
  cases h
  exact BJ hf hn
theorem SB {r:Ren}{fr:Fr}{a:Act}(hf:FR r fr a){x:Option Operand}{y:Option N}(h:Qz fr x=some y):OV (y.map NV) (x.map a.eval):=by
 cases x with
 |none=>cases h;trivial
 |some x=>
  obtain⟨s,hs,h⟩:=aj (show ob (evS fr x) (λx=>ob x.num λp=>some (some p.2))=some y from h)
  obtain⟨p,hp,h⟩:=aj h
  cases h
  exact⟨_,rY hp (fQ hf hs)⟩
theorem a8e (hty:eY P ty){r:Ren}{fr:Fr}{a:Act}(hf:FR r fr a){t:TypeId}{x:Operand}{lo hi mx:Option Operand}{v:V}(h:a7I ty fr t x lo hi mx=some v):
  ∃z,(Instr.sliceAt t (a.eval x) (lo.map a.eval) (hi.map a.eval) (mx.map a.eval)).run P w=.ok z w/\VV r v z:=by
 unfold a7I at h
 cases hc:(Y4 mx&&nV ty t)<;>rw[hc]at h<;>simp only[aeW,aeS]at h
 ·cases h
 simp only[aeI]at hc
 obtain⟨hm,hs⟩:=hc
 cases mx with
 |some m=>cases hm
 |none=>
  obtain⟨p,hp,h⟩:=aj h
  obtain⟨l,hl,h⟩:=aj h
  obtain⟨b,hb,h⟩:=aj h
  obtain⟨e,he,h⟩:=aj h
  obtain⟨m,hm,h⟩:=aj h
  cases h
  obtain⟨i,j,h1,h2,h3,h4,h5⟩:=Base.ok.ct _ _ _ _ (H8 hm)
  have hu:=kX hl (fQ hf hp)
  have hi':VS r (.str (bW Base.sig l)) (a.eval x):=hu
  have hlo:oi (b.map NV) 0=(i:Int):=by
   cases b with
   |none=>exact h1
   |some b=>exact h1
  have hhi:oi (e.map NV) (bW Base.sig l).length=(j:Int):=by
   cases e with
   |none=>have h2:j=(bW Base.sig l).length:=h2;show((bW Base.sig l).length:Int)=j;omega
   |some e=>exact h2
  have hbn:∀{a b:Nat},a<=b->bnd (a:Int) b=some a:=λ{a b} h=>by
   show(bif aib a b then some a else none)=_
   rw[agb h]
   rfl
  obtain⟨z,hz,hz'⟩:=Qy (P:=P) (w:=w) (t:=t) (mx:=none) (vm:=none) (s:=.str (((bW Base.sig l).take j).drop i)) hty (SB hf hb) (SB hf he) trivial hi' (by
   show(bif nV ty t then a5g (bW Base.sig l) (b.map NV) (e.map NV)else none)=_
   rw[hs]
   show(ob (bnd (oi (e.map NV) (bW Base.sig l).length) (bW Base.sig l).length) λh=>ob (bnd (oi (b.map NV) 0) h) λk=>some (S.str (((bW Base.sig l).take h).drop k)))=_
   rw[hhi,hbn h4,lW,hlo,hbn h3,lW])
  refine⟨z,hz,?_⟩
  rw[h5]at hz'
  exact hz'
theorem a5d {r:Ren}{x:A}{cs:List S}(h:a8Z x=some cs){u:Value}(hu:VA r x u):∃us:List Value,u=.agg us.toArray/\au (VS r) cs us:=by
 cases x with
 |s y=>cases h
 |g l=>cases h;exact hu
theorem AP {α:Type}{l:Array α}{x:α}(h:l.toList=[x]):l=#[x]:=by cases l;simp at h;rw[h]
theorem yB (hty:eY P ty){r:Ren}{fr:Fr}{a:Act}(hf:FR r fr a){c:Call}{b:Builtin}{v:V}(h:l9 ty fr c b=some v)(o:TypeId)(cs:Array Bool):
  ∃u,(builtin b c.argTypes o cs (c.args.map a.eval)).run P w=.ok (.value u) w/\VV r v u:=by
 unfold l9 at h
 split at h
 ·unfold a4R at h
  split at h
  ·rename_i t ts x ht hx
   obtain⟨T,hT,h⟩:=aj h
   obtain⟨y,hy,h⟩:=aj h
   have e1:c.argTypes=(t::ts).toArray:=by rw[<-ht]
   have e2:=AP hx
   rcases dY h with h|h
   ·obtain⟨n,hn,h⟩:=aj h
    cases h
    have:=a7M (w:=w) hty hT (qW hf hy) hn ts o
    refine⟨.int .i64 n,?_,rfl⟩
    rw[e1,e2]
    simp[builtin,this]
   ·obtain⟨z,hz,hz'⟩:=a4X (w:=w) hty hT (qW hf hy) h ts o
    refine⟨z,?_,hz'⟩
    rw[e1,e2]
    simp[builtin,hz]
  ·cases h
 ·obtain⟨l,hl,h⟩:=aj h
  split at h
  ·rename_i x l'
   have hm:=Om hf hl
   cases hc:c.args.toList.map a.eval with
   |nil=>rw[hc]at hm;exact hm.elim
   |cons u us=>
    rw[hc]at hm
    obtain⟨s,hs,h⟩:=aj h
    cases h
    obtain⟨z,hz,hz'⟩:=GU (P:=P) (w:=w) a7p hm.1 hm.2 hs
    refine⟨z,?_,hz'⟩
    simp[builtin,Builtin.max_,hc,hz]
  ·cases h
 ·obtain⟨l,hl,h⟩:=aj h
  split at h
  ·rename_i x l'
   have hm:=Om hf hl
   cases hc:c.args.toList.map a.eval with
   |nil=>rw[hc]at hm;exact hm.elim
   |cons u us=>
    rw[hc]at hm
    obtain⟨s,hs,h⟩:=aj h
    cases h
    obtain⟨z,hz,hz'⟩:=GU (P:=P) (w:=w) a8r hm.1 hm.2 hs
    refine⟨z,?_,hz'⟩
    simp[builtin,Builtin.min_,hc,hz]
  ·cases h
 ·cases h
theorem Rl {C:Ctx}(hty:eY P C.ty)(hTb:bQ C.tb)(hw0:Here w){r:Ren}{fr:Fr}{a:Act}(hf:FR r fr a){h hw:Heap}{fl:Nat}{o:Oper}{v:V}(hh:how C fr h hw fl o.op=.p (some v)):
  ∃u,(execOp a.eval o).run P w=.ok (.value u) w/\VV r v u:=by
 cases ho:o.op<;>simp only[ho,how]at hh<;>(try(cases hh;done))<;>(try(simp only[How.p.injEq]at hh))
 case move x=>exact⟨a.eval x,by simp[execOp,ho],JD hf hh⟩
 case assign x=>exact⟨a.eval x,by simp[execOp,ho],JD hf hh⟩
 case pick c x y=>
  obtain⟨s,hs,hh⟩:=aj hh
  obtain⟨b,hb,hh⟩:=aj hh
  have e:=o8 hb (fQ hf hs)
  cases b
  ·exact⟨a.eval y,by simp[execOp,ho,e,asBool],JD hf hh⟩
  ·exact⟨a.eval x,by simp[execOp,ho,e,asBool],JD hf hh⟩
 case binOp op t x y t'=>
  rcases dY hh with hh|hh
  ·obtain⟨p,hp,hh⟩:=aj hh
   obtain⟨q,hq,hh⟩:=aj hh
   obtain⟨z,hz,hz'⟩:=Ob (w:=w) hty (qW hf hp) (qW hf hq) hh
   refine⟨z,?_,hz'⟩
   unfold guarded at hz
   simp only[execOp,ho,ahJ]at hz |-
   rw[hz]
   rfl
  ·have key:∃z,(guarded op t x y (a.eval x) (a.eval y)).run P w=.ok z w/\VV r v z:=by
    rcases dY hh with hh|hh
    ·exact a8v (w:=w) (t:=t) hTb hty hf hh
    ·exact a5u (w:=w) (t:=t) hty hf hh
   obtain⟨z,hz,hz'⟩:=key
   refine⟨z,?_,hz'⟩
   unfold guarded at hz
   simp only[execOp,ho,ahJ]at hz |-
   rw[hz]
   rfl
 case unOp op t x=>
  obtain⟨p,hp,hh⟩:=aj hh
  obtain⟨z,hz,hz'⟩:=aby (P:=P) (w:=w) (fQ hf hp) hh
  exact⟨z,by simp[execOp,ho,hz],hz'⟩
 case convert src dst x=>
  unfold qI at hh
  split at hh
  ·rename_i v' hv'
   simp only[How.p.injEq]at hh
   cases hh
   obtain⟨X,hX,hv'⟩:=aj hv'
   obtain⟨T,hT,hv'⟩:=aj hv'
   obtain⟨p,hp,hv'⟩:=aj hv'
   obtain⟨z,hz,hz'⟩:=Ut (w:=w) hty hX hT (fQ hf hp) hv'
   exact⟨z,by simp[execOp,ho,hz],hz'⟩
  ·cases hh
 case makeFunc fn first captured=>
  unfold zU at hh
  split at hh
  ·rename_i f hfirst
   obtain⟨cs,hcs,hh⟩:=aj hh
   cases hh
   obtain⟨h1,h2⟩:=MI hf hcs
   have e1:first=#[]:=by cases first;simpa using hfirst
   have e2:captured.map a.eval=(cs.map λp=>Value.pointer (some (r.at p.1 p.2))).toArray:=by
    rw[<-h2];cases captured;simp
   refine⟨_,?_,h1,rfl⟩
   subst e1
   simp[execOp,ho,Instr.makeFunc,e2]
  ·cases hh
 case slice t x lo hi mx=>
  rcases dY hh with hh|hh
  ·obtain⟨p,hp,hh⟩:=aj hh
   obtain⟨l,hl,hh⟩:=aj hh
   obtain⟨i,hi',hh⟩:=aj hh
   obtain⟨m,hm,hh⟩:=aj hh
   obtain⟨s,hs,hh⟩:=aj hh
   cases hh
   obtain⟨z,hz,hz'⟩:=Qy (w:=w) hty (DU hf hl) (DU hf hi') (DU hf hm) (fQ hf hp) hs
   exact⟨z,by simp[execOp,ho,hz],hz'⟩
  ·obtain⟨z,hz,hz'⟩:=a8e (w:=w) hty hf hh
   exact⟨z,by simp[execOp,ho,hz],hz'⟩
 case fieldAddr s x f=>
  rcases dY hh with hh|hh
  ·obtain⟨p,hp,hh⟩:=aj hh
   obtain⟨q,hq,hh⟩:=aj hh
   cases hz:(q.2.size==0)<;>rw[hz]at hh<;>cases hh
   obtain⟨h1,h2⟩:=rG hf hp
   obtain⟨z,hz1,hz2⟩:=OH (w:=w) (o:=p.2) hty h1 hq hz
   exact⟨z,by simp[execOp,ho,h2,hz1],hz2⟩
  ·obtain⟨z,hz1,hz2⟩:=a0g (w:=w) hty hf hh
   exact⟨z,by simp[execOp,ho,hz1],hz2⟩
 case field s x f=>
  obtain⟨p,hp,hh⟩:=aj hh
  obtain⟨cs,hcs,hh⟩:=aj hh
  obtain⟨q,hq,hh⟩:=aj hh
  obtain⟨c,hc,hh⟩:=aj hh
  obtain⟨y,hy,hh⟩:=aj hh
  cases hh
  obtain⟨us,h1,h2⟩:=a5d hcs (qW hf hp)
  obtain⟨z,hz1,hz2⟩:=a3L (w:=w) hty h2 hq hc hy
  exact⟨z,by simp[execOp,ho,h1,hz1],hz2⟩
 case indexAddr t x i=>
  rcases dY hh with hh|hh
  ·obtain⟨p,hp,hh⟩:=aj hh
   obtain⟨n,hn,hh⟩:=aj hh
   obtain⟨z,hz1,hz2⟩:=Kt (w:=w) hty (fQ hf hp) (fQ hf hn) hh
   exact⟨z,by simp[execOp,ho,hz1],hz2⟩
  ·obtain⟨z,hz1,hz2⟩:=Zz (w:=w) hTb hty hf hh
   exact⟨z,by simp[execOp,ho,hz1],hz2⟩
 case load t x=>
  unfold qL at hh
  split at hh
  ·rename_i v' hv'
   simp only[How.p.injEq]at hh
   cases hh
   obtain⟨z,hz1,hz2⟩:=a1h hTb hw0 hty hf hv'
   exact⟨z,by simp[execOp,ho,hz1],hz2⟩
  ·cases hh
 case index t x i=>
  obtain⟨p,hp,hh⟩:=aj hh
  obtain⟨n,hn,hh⟩:=aj hh
  obtain⟨k,hk⟩:=BJ hf hn
  have hpa:=qW hf hp
  cases p with
  |s y=>
   obtain⟨z,hz1,hz2⟩:=Ol (w:=w) (k:=k) hty hpa hh
   exact⟨z,by simp[execOp,ho,hk,hz1],hz2⟩
  |g l=>
   obtain⟨us,h1,h2⟩:=hpa
   obtain⟨z,hz1,hz2⟩:=NJ (w:=w) (k:=k) hty h2 hh
   exact⟨z,by simp[execOp,ho,hk,h1,hz1],hz2⟩
 case extract t i=>
  obtain⟨p,hp,hh⟩:=aj hh
  obtain⟨z,hz1,hz2⟩:=Um (P:=P) (w:=w) (JD hf hp) hh
  exact⟨z,by simp[execOp,ho,hz1],hz2⟩
 case build t ps=>
  obtain⟨T,hT,hh⟩:=aj hh
  obtain⟨qs,hqs,hh⟩:=aj hh
  obtain⟨z,hz1,hz2⟩:=a2i (w:=w) hty hT (zZ hf hqs) hh
  refine⟨z,?_,hz2⟩
  simp only[execOp,ho]
  rw[show(ps.map λ(x:Nat×Operand)=>match x with |(i,x)=>(i,a.eval x))=(ps.toList.map λp=>(p.1,a.eval p.2)).toArray from by cases ps;simp]
  simp[hz1]
 case nilCheck x=>
  obtain⟨p,hp,hh⟩:=aj hh
  cases hh
  obtain⟨h1,h2⟩:=rG hf hp
  exact⟨_,by simp[execOp,ho,h2],h1,rfl⟩
 case call c=>
  cases hcal:c.callee<;>simp only[hcal,lZ]at hh<;>(try(cases hh;done))
  rename_i b
  unfold iG at hh
  split at hh
  ·cases hh
  ·cases hh
  ·simp only[How.p.injEq]at hh
   rcases dY hh with hh|hh
   ·obtain⟨u,hu1,hu2⟩:=yB (w:=w) hty hf hh o.type (c.args.map fun| .const _=>true|_=>false)
    refine⟨u,?_,hu2⟩
    simp only[execOp,ho,ahJ]
    simp only[resolve,hcal,ahL,ahH,invoke]
    exact hu1
   ·obtain⟨u,hu1,hu2⟩:=a8g (w:=w) hTb hty hf hh o.type (c.args.map fun| .const _=>true|_=>false)
    refine⟨u,?_,hu2⟩
    simp only[execOp,ho,ahJ]
    simp only[resolve,hcal,ahL,ahH,invoke]
    exact hu1
  ·simp only[How.p.injEq]at hh
   obtain⟨u,hu1,hu2⟩:=yB (w:=w) hty hf hh o.type (c.args.map fun| .const _=>true|_=>false)
   refine⟨u,?_,hu2⟩
   simp only[execOp,ho,ahJ]
   simp only[resolve,hcal,ahL,ahH,invoke]
   exact hu1
