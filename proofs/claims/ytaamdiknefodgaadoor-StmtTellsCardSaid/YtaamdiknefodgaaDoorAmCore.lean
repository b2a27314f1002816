/- An abstract machine for the model's code: values without addresses, one order for every region. (No program in sight.) -/
import Derived.WalkKit
import Derived.Below
import Derived.Orders
import Derived.OrdersHeld
namespace Go.Proofs.YtaamdiknefodgaaDoor.Am
noncomputable section

/-- a number: written out, or not -/
inductive N where
  | c (n : Int)
  | x (i : Nat)
/-- what one cell holds -/
inductive S where
  | bool (b : Bool)
  | int (k : IntKind) (n : Int)
  | str (s : List UInt8)
  | ptr (l o : Nat)
  | nilp
  | sl (l o n z : Nat) (c : Option Nat)
  | sle
  | nils
  | fn (f : FuncId) (cs : List (Nat × Nat))
  | nili
  | ifc
  /-- a number that is not written out -/
  | xi (k : IntKind) (i : Nat)
  /-- a string that is not written out in full: below 256 its bytes, from 256 on strings of their own -/
  | xs (l : List Nat)
  /-- a truth value that is not written out: one of these numbers is this -/
  | xe (l : List (Nat × Int))
  /-- .. all of these numbers are these, or not all -/
  | xa (l : List (Nat × Int)) (b : Bool)
  /-- an address in a row of n cells: the one with this number, which is not written out -/
  | px (l o n i : Nat)
  /-- a slice of the arguments: list number k -/
  | rv (k : Nat)
  /-- an address in it: of cell o of an element -/
  | pe (k : Nat) (i : N) (o : Nat)
  /-- anything of one cell -/
  | top
/-- a value of one type: one cell, or a struct's or array's cells -/
inductive A where
  | s (x : S)
  | g (l : List S)
/-- a slot: a value, or several results -/
inductive V where
  | a (x : A)
  | t (l : List A)
  /-- anything -/
  | any

abbrev V.s (x : S) : V := .a (.s x)
abbrev V.g (l : List S) : V := .a (.g l)
def undef : V := .t []
def A.cells (x : A) : List S := A.rec (fun x => [x]) (fun l => l) x
def vS (x : S) : Option V := some (.a (.s x))
def vA (x : A) : Option V := some (.a x)

/-- a block: its cells; whether it may be written -/
structure Blk where
  cells : List S
  own : Bool
abbrev Hp := List (Nat × Blk)
def Hp.get (h : Hp) : Nat → Option Blk := List.rec (fun _ => none) (fun p _ ih l => bif p.1 == l then some p.2 else ih l) h
def Hp.set (h : Hp) : Nat → Blk → Hp := List.rec (fun _ _ => []) (fun p t ih l c => bif p.1 == l then (p.1, c) :: t else p :: ih l c) h
def Hp.del (h : Hp) : Nat → Hp := List.rec (fun _ => []) (fun p _ ih l => bif p.1 == l then ih l else p :: ih l) h
structure Heap where
  m : Hp
  next : Nat
def Heap.get (h : Heap) (l : Nat) : Option Blk := Hp.get h.m l
def Heap.alloc (h : Heap) (cells : List S) : Heap := ⟨(h.next, ⟨cells, true⟩) :: h.m, h.next + 1⟩

/-- types, as far as the machine asks -/
inductive D where
  | one
  | int (k : IntKind)
  | str
  | ptr (e : TypeId)
  | sl (e : TypeId)
  | ifc
  | arr (n : Nat) (e : TypeId)
  | st (fs : List (Nat × TypeId))
  | other
structure Ty where
  d : D
  size : Nat
  bytes : Nat
  zero : List S
  cmp : Bool
def D.agg (d : D) : Bool := match d with | .arr .. | .st _ => true | _ => false
def Ty.mk' (t : Ty) (cs : List S) : Option A := bif t.d.agg then some (.g cs) else match cs with | [x] => some (.s x) | _ => none

section
variable {α β : Type}
def nth (l : List α) : Nat → Option α := List.rec (fun _ => none) (fun x _ ih n => Nat.rec (some x) (fun m _ => ih m) n) l
def upd (l : List α) : Nat → α → List α := List.rec (fun _ _ => []) (fun x t ih n y => Nat.rec (y :: t) (fun m _ => x :: ih m y) n) l
/-- the first n, if they are there -/
def taken (l : List α) : Nat → Option (List α) := List.rec (fun n => Nat.rec (some []) (fun _ _ => none) n) (fun x _ ih n => Nat.rec (some []) (fun m _ => Option.rec none (fun r => some (x :: r)) (ih m)) n) l
/-- n cells from o on, if they are there -/
def ext (l : List α) (o n : Nat) : Option (List α) := taken (l.drop o) n
/-- cells laid over the first ones -/
def over (l : List α) : List α → Option (List α) := List.rec (fun ys => List.rec (some []) (fun _ _ _ => none) ys) (fun x t ih ys => List.rec (some (x :: t)) (fun y ys _ => Option.rec none (fun r => some (y :: r)) (ih ys)) ys) l
/-- cells laid over those from o on, if they are there -/
def lay (l : List α) (o : Nat) (ys : List α) : Option (List α) := Option.rec none (fun r => some (l.take o ++ r)) (over (l.drop o) ys)
def rep (n : Nat) (l : List α) : List α := Nat.rec [] (fun _ r => l ++ r) n
def mapO (f : α → Option β) (l : List α) : Option (List β) := List.rec (some []) (fun x _ ih => Option.rec none (fun y => Option.rec none (fun r => some (y :: r)) ih) (f x)) l
def ob (x : Option α) (f : α → Option β) : Option β := Option.rec none f x
end

def ofValue : Value → Option A
  | .bool b => some (.s (.bool b))
  | .int k n => some (.s (.int k n))
  | .string s => some (.s (.str s.data.toList))
  | .pointer none => some (.s .nilp)
  | .slice none 0 0 => some (.s .nils)
  | .nilIface => some (.s .nili)
  | _ => none

/-- what is known of numbers and strings that are not written out -/
class Know where
  /-- a number lies between these -/
  iv : List (Int × Int)
  /-- two numbers differ; one is less than the other -/
  ne : List (Nat × Nat)
  lt : List (Nat × Nat)
  /-- a string is at most that long -/
  mx : List Nat
  /-- two strings are the same, or not -/
  sq : List (List Nat × List Nat × Bool)
  /-- a string's length is a number -/
  ln : List (List Nat × Nat)
  /-- not all of these numbers are these -/
  cf : List (List (Nat × Int))
  /-- two numbers are the same if this one is 0 -/
  df : List (Nat × Nat × Nat)
  /-- two strings are the same if all of these numbers are these -/
  sx : List (List Nat × List Nat × List (Nat × Int))
  /-- a string from one number to another, or to its end, is this string -/
  ct : List (List Nat × N × Option N × List Nat)
  /-- a number less another one; a number and this -/
  sb : List (Nat × Nat × Nat)
  ad : List (Nat × Int × Nat)
abbrev Know.nought : Know := ⟨[], [], [], [], [], [], [], [], [], [], [], []⟩
def N.eqv (a b : N) : Bool := match a, b with | .c m, .c n => decide (m = n) | .x i, .x j => Nat.beq i j | _, _ => false
def N.eqo (a b : Option N) : Bool := match a, b with | none, none => true | some a, some b => a.eqv b | _, _ => false
def find2 (i j : Nat) (l : List (Nat × Nat × Nat)) : Option Nat := List.rec none (fun p _ ih => bif Nat.beq p.1 i && Nat.beq p.2.1 j then some p.2.2 else ih) l
def findAd (i : Nat) (c : Int) (l : List (Nat × Int × Nat)) : Option Nat := List.rec none (fun p _ ih => bif Nat.beq p.1 i && decide (p.2.1 = c) then some p.2.2 else ih) l
def orO {α : Type} (x y : Option α) : Option α := Option.rec y some x
def hasPair (l : List (Nat × Nat)) (i j : Nat) : Bool := List.rec false (fun p _ ih => (Nat.beq p.1 i && Nat.beq p.2 j) || ih) l
def S.num (x : S) : Option (IntKind × N) := match x with | .int k n => some (k, .c n) | .xi k i => some (k, .x i) | _ => none
def S.txt (x : S) : Option (List Nat) := match x with | .str s => some (s.map UInt8.toNat) | .xs l => some l | _ => none
def sameX : List Nat → List Nat → Bool
  | [], [] => true
  | a :: r, b :: s => Nat.beq a b && sameX r s
  | _, _ => false
def sameE : List (Nat × Int) → List (Nat × Int) → Bool
  | [], [] => true
  | a :: r, b :: s => Nat.beq a.1 b.1 && decide (a.2 = b.2) && sameE r s
  | _, _ => false
def notO (x : Option Bool) : Option Bool := ob x fun b => some (!b)
section
variable [Know]
def N.iv (a : N) : Option (Int × Int) := match a with | .c n => some (n, n) | .x i => nth Know.iv i
def ltI (a b : N) : Option Bool := ob a.iv fun p => ob b.iv fun q => bif decide (p.2 < q.1) then some true else bif decide (q.2 ≤ p.1) then some false else none
def eqI (a b : N) : Option Bool := ob a.iv fun p => ob b.iv fun q => bif decide (p.2 < q.1) || decide (q.2 < p.1) then some false else bif decide (p = q) && decide (p.1 = p.2) then some true else none
def ltX (a b : N) : Option Bool :=
  match a, b with
  | .x i, .x j => bif Nat.beq i j then some false else bif hasPair Know.lt i j then some true else bif hasPair Know.lt j i then some false else ltI (.x i) (.x j)
  | a, b => ltI a b
def eqX (a b : N) : Option Bool :=
  match a, b with
  | .x i, .x j => bif Nat.beq i j then some true else bif hasPair Know.ne i j || hasPair Know.ne j i || hasPair Know.lt i j || hasPair Know.lt j i then some false else eqI (.x i) (.x j)
  | a, b => eqI a b
def cmpX (op : BinOp) (a b : N) : Option Bool :=
  match op with
  | .eql => eqX a b
  | .neq => notO (eqX a b)
  | .lss => ltX a b
  | .gtr => ltX b a
  | .leq => notO (ltX b a)
  | .geq => notO (ltX a b)
  | _ => none
/-- whether a number is this; whether one is -/
def eqC (i : Nat) (c : Int) : Option Bool := ob (nth Know.iv i) fun p => bif decide (c < p.1) || decide (p.2 < c) then some false else bif decide (p.1 = c) && decide (p.2 = c) then some true else none
def anyE : List (Nat × Int) → Option Bool := List.rec (some false) fun p _ ih => Option.rec (ob ih fun b => bif b then some true else none) (fun b => bif b then some true else ih) (eqC p.1 p.2)
/-- whether all of these numbers are these -/
def hasE (l : List (Nat × Int)) (p : Nat × Int) : Bool := List.rec false (fun q _ ih => (Nat.beq q.1 p.1 && decide (q.2 = p.2)) || ih) l
def allE : List (Nat × Int) → Option Bool := List.rec (some true) fun p _ ih => Option.rec (ob ih fun b => bif b then none else some false) (fun b => bif b then ih else some false) (eqC p.1 p.2)
def allK (l : List (Nat × Int)) : Option Bool := Option.rec (bif Know.cf.any (fun m => m.all (hasE l)) then some false else none) some (allE l)
def S.isBool (x : S) : Option Bool := match x with | .bool b => some b | .xe l => anyE l | .xa l b => ob (allK l) fun c => some (c == b) | _ => none
def num2 {α : Type} (x y : S) (f : N → N → Option α) : Option α := ob x.num fun p => ob y.num fun q => bif p.1 == q.1 then f p.2 q.2 else none
def symInt (op : BinOp) (x y : S) : Option S := num2 x y fun a b => ob (cmpX op a b) fun r => some (.bool r)
def findSq (a b : List Nat) : List (List Nat × List Nat × Bool) → Option Bool
  | [] => none
  | (p, q, r) :: t => bif (sameX p a && sameX q b) || (sameX p b && sameX q a) then some r else findSq a b t
def eqS (a b : List Nat) : Option Bool := bif sameX a b then some true else findSq a b Know.sq
def mxX : List Nat → Option Nat
  | [] => some 0
  | n :: r => ob (mxX r) fun m => bif Nat.blt n 256 then some (m + 1) else ob (nth Know.mx (n - 256)) fun k => some (m + k)
def findSx (a b : List Nat) : List (List Nat × List Nat × List (Nat × Int)) → Option (List (Nat × Int))
  | [] => none
  | (p, q, l) :: t => bif sameX p a && sameX q b then some l else findSx a b t
def findCt (l : List Nat) (a : N) (b : Option N) : List (List Nat × N × Option N × List Nat) → Option (List Nat)
  | [] => none
  | (p, c, e, m) :: t => bif sameX p l && c.eqv a && N.eqo e b then some m else findCt l a b t
def findLn (a : List Nat) : List (List Nat × Nat) → Option Nat
  | [] => none
  | (p, j) :: t => bif sameX p a then some j else findLn a t
end

/-- what a call comes to: the function, its arguments, the memory, the first block that may be written -/
abbrev Oracle := FuncId → List A → Heap → Nat → Option (V × Heap)
abbrev Tys := TypeId → Option Ty
abbrev Fr := List V
structure St where
  fr : Fr
  h : Heap
inductive X where
  | normal
  | exit (id : Nat)
  | ret
abbrev XS := Option (X × St)
/-- lists: which number is a list's length; which cells an element has -/
structure Tabs where
  len : List (Nat × Nat)
  el : List (Nat × N × List S)
  /-- a number and this are that number -/
  add : List (Nat × Int × Nat)
abbrev Tabs.nought : Tabs := ⟨[], [], []⟩
/-- what a loop comes to, by its number, and the first block that may be written -/
abbrev Loops := Nat → Nat → St → XS
structure Ctx where
  ty : Tys
  call : Oracle
  tb : Tabs
  loop : Loops

def ev (fr : Fr) (x : Operand) : Option V :=
  Operand.rec (fun t => nth fr t) (fun v => ob (ofValue v) vA) (fun _ => none) (fun f => vS (.fn f [])) x
def V.isA (v : V) : Option A := V.rec some (fun _ => none) none v
def A.isS (v : A) : Option S := A.rec some (fun _ => none) v
def S.isInt (x : S) : Option Int := match x with | .int _ n => some n | _ => none
def S.isPtr (x : S) : Option (Nat × Nat) := match x with | .ptr l o => some (l, o) | _ => none
def evA (fr : Fr) (x : Operand) : Option A := ob (ev fr x) V.isA
def evS (fr : Fr) (x : Operand) : Option S := ob (evA fr x) A.isS
def evInt (fr : Fr) (x : Operand) : Option Int := ob (evS fr x) S.isInt
def evPtr (fr : Fr) (x : Operand) : Option (Nat × Nat) := ob (evS fr x) S.isPtr

def maxStr : Nat := 1099511627776

def shl (k : IntKind) (a b : Int) : Option S := bif decide (b < 0) then none else some (.int k (k.wrap (a * 2 ^ min b.toNat k.bits)))
def shr (k : IntKind) (a b : Int) : Option S := bif decide (b < 0) then none else some (.int k (a.fdiv (2 ^ min b.toNat k.bits)))
def quo (k : IntKind) (a b : Int) : Option S := bif b == 0 then none else some (.int k (k.wrap (a.tdiv b)))
def rem (k : IntKind) (a b : Int) : Option S := bif b == 0 then none else some (.int k (a.tmod b))
def intOp (op : BinOp) (k : IntKind) (a b : Int) : Option S :=
  match op with
  | .add => some (.int k (k.wrap (a + b)))
  | .sub => some (.int k (k.wrap (a - b)))
  | .mul => some (.int k (k.wrap (a * b)))
  | .quo => quo k a b
  | .rem => rem k a b
  | .and => some (.int k (bits .and k a b))
  | .or => some (.int k (bits .or k a b))
  | .xor => some (.int k (bits .xor k a b))
  | .andNot => some (.int k (bits .andNot k a b))
  | .eql => some (.bool (a == b))
  | .neq => some (.bool (a != b))
  | .lss => some (.bool (a < b))
  | .leq => some (.bool (a ≤ b))
  | .gtr => some (.bool (a > b))
  | .geq => some (.bool (a ≥ b))
  | _ => none
section
variable [Know]
def catX (a b : List Nat) : Option S := ob (mxX (a ++ b)) fun m => bif Nat.ble m maxStr then some (.xs (a ++ b)) else none
def symStr (op : BinOp) (x y : S) : Option S := ob x.txt fun a => ob y.txt fun b => match op with
  | .add => catX a b
  | .eql => orO (ob (eqS a b) fun r => some (.bool r)) (ob (findSx a b Know.sx) fun l => some (.xa l true))
  | .neq => orO (ob (eqS a b) fun r => some (.bool (!r))) (ob (findSx a b Know.sx) fun l => some (.xa l false))
  | _ => none
def symK (op : BinOp) (x y : A) : Option S := match x, y with | .s x, .s y => orO (symInt op x y) (symStr op x y) | _, _ => none
end
def intBin (op : BinOp) (k : IntKind) (a : Int) (k' : IntKind) (b : Int) : Option S :=
  match op with
  | .shl => shl k a b
  | .shr => shr k a b
  | op => bif k == k' then intOp op k a b else none
def cat (a b : List UInt8) : Option S := bif Nat.ble (a.length + b.length) maxStr then some (.str (a ++ b)) else none
def strBin (op : BinOp) (a b : List UInt8) : Option S :=
  match op with
  | .add => cat a b
  | .eql => some (.bool (a == b))
  | .neq => some (.bool (!(a == b)))
  | .lss => some (.bool (Op.bytesLess a b))
  | .geq => some (.bool (!(Op.bytesLess a b)))
  | .leq => some (.bool (Op.bytesLess a b || a == b))
  | .gtr => some (.bool (!(Op.bytesLess a b || a == b)))
  | _ => none

/-- what is told of ==: true or false, or: all of these numbers are these -/
inductive Q where
  | b (b : Bool)
  | c (l : List (Nat × Int))
def Q.and (p q : Q) : Q := match p, q with
  | .b true, q => q
  | .b false, _ => .b false
  | .c _, .b false => .b false
  | .c l, .b true => .c l
  | .c l, .c m => .c (l ++ m)
/-- == of two structs, of two arrays, over == of their parts -/
def eqNext (r : Option Q) (k : Option Q) : Option Q := ob r fun p => match p with | .b false => some (.b false) | p => ob k fun q => some (p.and q)
def eqFields (ty : Tys) (f : TypeId → List S → List S → Option Q) (xs ys : List S) : List (Nat × TypeId) → Option Q
  | [] => some (.b true)
  | (o, t) :: r => ob (ty t) fun T => ob (ext xs o T.size) fun x => ob (ext ys o T.size) fun y => eqNext (f t x y) (eqFields ty f xs ys r)
def eqElems (f : TypeId → List S → List S → Option Q) (e : TypeId) (z : Nat) (xs ys : List S) : Nat → Nat → Option Q
  | 0, _ => some (.b true)
  | n + 1, i => ob (ext xs (i * z) z) fun x => ob (ext ys (i * z) z) fun y => eqNext (f e x y) (eqElems f e z xs ys n (i + 1))
def eqInt0 (x y : S) : Option Bool := match x, y with | .int k a, .int k' b => bif k == k' then some (a == b) else none | _, _ => none
def eqInt [Know] (x y : S) : Option Bool := orO (eqInt0 x y) (num2 x y eqX)
def eqBool0 (x y : S) : Option Bool := match x, y with | .bool a, .bool b => some (a == b) | .xe l, .xe m => bif sameE l m then some true else none | .xa l b, .xa m c => bif sameE l m then some (b == c) else none | _, _ => none
def eqBool [Know] (x y : S) : Option Bool := orO (eqBool0 x y) (ob x.isBool fun a => ob y.isBool fun b => some (a == b))
def eqStr0 (x y : S) : Option Bool := match x, y with | .str a, .str b => some (a == b) | _, _ => none
def eqStr [Know] (x y : S) : Option Bool := orO (eqStr0 x y) (ob x.txt fun a => ob y.txt fun b => eqS a b)
/-- 0: nil; 1: not nil -/
def nilPtr (x : S) : Option Bool := match x with | .nilp => some true | .ptr _ _ => some false | _ => none
def nilSl (x : S) : Option Bool := match x with | .nils => some true | .sl .. => some false | .sle => some false | _ => none
def nilIf (x : S) : Option Bool := match x with | .nili => some true | .ifc => some false | _ => none
def eqNil (p q : Option Bool) : Option Bool := ob p fun p => ob q fun q => bif p || q then some (p && q) else none
def one1 {α : Type} (f : S → S → Option α) (xs ys : List S) : Option α := match xs, ys with | [x], [y] => f x y | _, _ => none
def atomQ (i : Nat) (c : Int) : Q := .c [(i, c)]
def eqIntQ [Know] (x y : S) : Option Q := match x, y with
  | .xi k i, .int k' c => bif k == k' then Option.rec (some (atomQ i c)) (fun b => some (.b b)) (eqC i c) else none
  | .int k' c, .xi k i => bif k == k' then Option.rec (some (atomQ i c)) (fun b => some (.b b)) (eqC i c) else none
  | .xi k i, .xi k' j => bif k == k' then orO (ob (eqX (.x i) (.x j)) fun b => some (.b b)) (ob (find2 i j Know.df) fun d => some (atomQ d 0)) else none
  | x, y => ob (eqInt x y) fun b => some (.b b)
def boolQ [Know] (l : List (Nat × Int)) (b : Bool) : Option Q := match l with
  | [(i, c)] => Option.rec (bif b then some (atomQ i c) else ob (nth Know.iv i) fun p => bif decide (p = (0, 1)) && decide (c = 1) then some (atomQ i 0) else none) (fun v => some (.b (v == b))) (eqC i c)
  | _ => none
def is01 [Know] (i : Nat) : Bool := Option.rec false (fun p => decide (p = ((0, 1) : Int × Int))) (nth Know.iv i)
def dfB [Know] (l m : List (Nat × Int)) : Option Q := match l, m with
  | [(i, c)], [(j, e)] => bif decide (c = 1) && decide (e = 1) && is01 i && is01 j then ob (find2 i j Know.df) fun d => some (atomQ d 0) else none
  | _, _ => none
def eqBoolQ [Know] (x y : S) : Option Q := match x, y with
  | .xe l, .bool b => orO (boolQ l b) (ob (eqBool x y) fun b => some (.b b))
  | .bool b, .xe l => orO (boolQ l b) (ob (eqBool x y) fun b => some (.b b))
  | .xe l, .xe m => orO (ob (eqBool x y) fun b => some (.b b)) (dfB l m)
  | x, y => ob (eqBool x y) fun b => some (.b b)
section
variable [Know]
/-- == of two values of a type -/
def eqD (ty : Tys) (f : TypeId → List S → List S → Option Q) (cmp : Bool) (d : D) (xs ys : List S) : Option Q :=
  match d with
  | .int _ => one1 eqIntQ xs ys
  | .one => one1 eqBoolQ xs ys
  | .str => ob (one1 eqStr xs ys) fun b => some (.b b)
  | .st fs => bif cmp then eqFields ty f xs ys fs else none
  | .arr n e => ob (ty e) fun E => eqElems f e E.size xs ys n 0
  | _ => none
def eqIn (ty : Tys) (n : Nat) : TypeId → List S → List S → Option Q :=
  Nat.rec (fun _ _ _ => none) (fun _ ih t xs ys => ob (ty t) fun T => eqD ty ih T.cmp T.d xs ys) n

/-- == of two cells that are no numbers and no strings; 'c': one of the two stands there as a constant -/
def eqCell (c : Bool) (d : D) (x y : S) : Option Bool :=
  match d with
  | .one => eqBool x y
  | .ptr _ => eqNil (nilPtr x) (nilPtr y)
  | .sl _ => eqNil (nilSl x) (nilSl y)
  | .ifc => bif c then eqNil (nilIf x) (nilIf y) else none
  | _ => none
/-- == and != of two values that are no numbers and no strings -/
def eqTop (ty : Tys) (c : Bool) (t : TypeId) (x y : A) : Option Q :=
  match x, y with
  | .s x, .s y => ob (ty t) fun T => ob (eqCell c T.d x y) fun b => some (.b b)
  | .g xs, .g ys => ob (ty t) fun T => bif T.cmp then eqIn ty 20 t xs ys else none
  | _, _ => none
def eqBin (ty : Tys) (c : Bool) (op : BinOp) (t : TypeId) (x y : A) : Option S :=
  match op with
  | .eql => ob (eqTop ty c t x y) fun q => some (match q with | .b b => .bool b | .c l => .xa l true)
  | .neq => ob (eqTop ty c t x y) fun q => some (match q with | .b b => .bool (!b) | .c l => .xa l false)
  | _ => none
inductive K where
  | int (k : IntKind) (n : Int)
  | str (s : List UInt8)
  | no
def S.k (x : S) : K := match x with | .int k n => .int k n | .str s => .str s | _ => .no
def A.k (x : A) : K := match x with | .s x => x.k | .g _ => .no
/-- an operator on two values -/
def binK (ty : Tys) (c : Bool) (op : BinOp) (t : TypeId) (x y : A) (p q : K) : Option S :=
  match p, q with
  | .int k a, .int k' b => intBin op k a k' b
  | .str a, .str b => strBin op a b
  | .no, .no => eqBin ty c op t x y
  | _, _ => none
def bin (ty : Tys) (c : Bool) (op : BinOp) (t : TypeId) (x y : A) : Option V := ob (orO (binK ty c op t x y x.k y.k) (symK op x y)) vS
def isConst (x : Operand) : Bool := match x with | .const _ => true | _ => false

def un (op : UnOp) (x : S) : Option V :=
  match op, x with
  | .neg, .int k n => vS (.int k (k.wrap (0 - n)))
  | .not, .xa l b => vS (.xa l (!b))
  | .not, x => ob x.isBool fun b => vS (.bool (!b))
  | _, _ => none

/-- an index: its number, if it is one -/
def idx (n : Int) (len : Nat) : Option Nat := Int.rec (fun i => bif Nat.blt i len then some i else none) (fun _ => none) n
/-- a bound: its number, if it is one -/
def bnd (n : Int) (len : Nat) : Option Nat := Int.rec (fun i => bif Nat.ble i len then some i else none) (fun _ => none) n

def oi (x : Option Int) (d : Int) : Int := Option.rec d (fun x => x) x
/-- lo, hi of what has a length and a greatest one -/
def bnds (len cap : Nat) (lo hi : Option Int) (k : Nat → Nat → Option S) : Option S :=
  ob (bnd (oi hi len) cap) fun h => ob (bnd (oi lo 0) h) fun l => k l h
def mkSl (l o z k h : Nat) (c : Option Nat) : Option S := bif h == k then some .sle else some (.sl l (o + k * z) (h - k) z c)
def cutStr (s : List UInt8) (lo hi : Option Int) : Option S := bnds s.length s.length lo hi fun l h => some (.str ((s.take h).drop l))
def cutSl (l o n z : Nat) (c : Option Nat) (lo hi : Option Int) : Option S :=
  Option.rec (bnds n n lo hi fun k h => mkSl l o z k h none) (fun c => bnds n c lo hi fun k h => mkSl l o z k h (some (c - k))) c
def cutSl3 (l o n z : Nat) (c : Option Nat) (lo hi : Option Int) (mx : Int) : Option S :=
  ob c fun c => ob (bnd mx c) fun m => ob hi fun h => bnds n m lo (some h) fun k h => mkSl l o z k h (some (m - k))
def cutAny (l o n z : Nat) (c : Option Nat) (lo hi mx : Option Int) : Option S :=
  Option.rec (cutSl l o n z c lo hi) (fun m => cutSl3 l o n z c lo hi m) mx
def cutNil (lo hi : Option Int) : Option S := bnds 0 0 lo hi fun _ _ => some .nils

def optInt (fr : Fr) (x : Option Operand) : Option (Option Int) := Option.rec (some none) (fun x => ob (evInt fr x) fun n => some (some n)) x

/-- the parts of a value written out, laid over its zero cells -/
def fill (place : Nat → Option (Nat × Nat)) (parts : List (Nat × A)) : List S → Option (List S) :=
  List.rec (fun cells => some cells) (fun p _ ih cells => ob (place p.1) fun q => bif p.2.cells.length == q.2 && Nat.ble (q.1 + q.2) cells.length then ob (lay cells q.1 p.2.cells) ih else none) parts
def evParts (fr : Fr) (ps : List (Nat × Operand)) : Option (List (Nat × A)) := mapO (fun p => ob (evA fr p.2) fun v => some (p.1, v)) ps

def maxI0 (x y : S) : Option S := match x, y with | .int k a, .int _ b => some (.int k (bif decide (b > a) then b else a)) | _, _ => none
def minI0 (x y : S) : Option S := match x, y with | .int k a, .int _ b => some (.int k (bif decide (b < a) then b else a)) | _, _ => none
def maxI (x y : S) : Option S := orO (maxI0 x y) (num2 x y fun a b => ob (ltX a b) fun l => some (bif l then y else x))
def minI (x y : S) : Option S := orO (minI0 x y) (num2 x y fun a b => ob (ltX b a) fun l => some (bif l then y else x))
def foldS (f : S → S → Option S) : S → List S → Option S
  | x, [] => some x
  | x, y :: r => ob (f x y) fun z => foldS f z r

/-- a struct's field -/
def fieldOf (ty : Tys) (s : TypeId) (f : Nat) : Option (Nat × Ty) :=
  ob (ty s) fun T => match T.d with
    | .st fs => ob (nth fs f) fun p => ob (ty p.2) fun F => some (p.1, F)
    | _ => none
/-- a slice's or array's element -/
def elemOf (ty : Tys) (t : TypeId) : Option Ty := ob (ty t) fun T => match T.d with | .sl e => ty e | _ => none
def arrOf (ty : Tys) (t : TypeId) : Option (Nat × Ty) := ob (ty t) fun T => match T.d with | .arr n e => ob (ty e) fun E => some (n, E) | _ => none

def pickOp (fr : Fr) (c a b : Operand) : Option V := ob (evS fr c) fun x => ob x.isBool fun t => bif t then ev fr a else ev fr b
def binOp' (ty : Tys) (fr : Fr) (op : BinOp) (t : TypeId) (x y : Operand) : Option V := ob (evA fr x) fun x' => ob (evA fr y) fun y' => bin ty (isConst x || isConst y) op t x' y'
def unOp' (fr : Fr) (op : UnOp) (x : Operand) : Option V := ob (evS fr x) (un op)
def convInt (d : D) (x : S) : Option V :=
  match d, x with
  | .int k, .int _ n => vS (.int k (k.wrap n))
  | .str, .str s => vS (.str s)
  | .int k, .xi _ i => ob (nth Know.iv i) fun p => bif decide (k.min ≤ p.1) && decide (p.2 ≤ k.max) then vS (.xi k i) else none
  | .str, .xs l => vS (.xs l)
  | _, _ => none
def convOp (ty : Tys) (fr : Fr) (src dst : TypeId) (x : Operand) : Option V := ob (ty src) fun _ => ob (ty dst) fun T => ob (evS fr x) fun x => convInt T.d x
def extractOp (fr : Fr) (t : Operand) (i : Nat) : Option V := ob (ev fr t) fun v => V.rec (fun _ => none) (fun l => ob (nth l i) vA) none v
def fieldAddrOp (ty : Tys) (fr : Fr) (s : TypeId) (x : Operand) (f : Nat) : Option V :=
  ob (evPtr fr x) fun p => ob (fieldOf ty s f) fun q => bif q.2.size == 0 then none else vS (.ptr p.1 (p.2 + q.1))
def aggOf (x : A) : Option (List S) := A.rec (fun _ => none) some x
def fieldOp (ty : Tys) (fr : Fr) (s : TypeId) (x : Operand) (f : Nat) : Option V :=
  ob (evA fr x) fun x => ob (aggOf x) fun cs => ob (fieldOf ty s f) fun q => ob (ext cs q.1 q.2.size) fun c => ob (q.2.mk' c) vA
def indexAddrS (ty : Tys) (t : TypeId) (i : Int) (x : S) : Option V :=
  match x with
  | .ptr l o => ob (arrOf ty t) fun q => ob (idx i q.1) fun i => vS (.ptr l (o + i * q.2.size))
  | .sl l o n z _ => ob (elemOf ty t) fun E => ob (idx i n) fun i => bif E.size == z then vS (.ptr l (o + i * z)) else none
  | _ => none
/-- .. whose index is not written out -/
def indexAddrX (ty : Tys) (t : TypeId) (i x : S) : Option V :=
  match i, x with
  | .xi _ i, .ptr l o => ob (arrOf ty t) fun q => ob (nth Know.iv i) fun p => bif q.2.size == 1 && decide (0 ≤ p.1) && decide (p.2 < q.1) then vS (.px l o q.1 i) else none
  | _, _ => none
def indexAddrI (ty : Tys) (t : TypeId) (i x : S) : Option V := orO (ob i.isInt fun i => indexAddrS ty t i x) (indexAddrX ty t i x)
def indexAddrOp (ty : Tys) (fr : Fr) (t : TypeId) (x i : Operand) : Option V := ob (evS fr x) fun x => ob (evS fr i) fun i => indexAddrI ty t i x
def indexStr (ty : Tys) (t : TypeId) (i : Int) (x : S) : Option V :=
  match x with
  | .str s => ob (ty t) fun T => match T.d with
    | .str => ob (idx i s.length) fun i => ob (nth s i) fun b => vS (.int .u8 b.toNat)
    | _ => none
  | _ => none
def indexArr (ty : Tys) (t : TypeId) (i : Int) (cs : List S) : Option V :=
  ob (arrOf ty t) fun q => ob (idx i q.1) fun i => ob (ext cs (i * q.2.size) q.2.size) fun c => ob (q.2.mk' c) vA
def indexOp (ty : Tys) (fr : Fr) (t : TypeId) (x i : Operand) : Option V :=
  ob (evA fr x) fun x => ob (evInt fr i) fun i => A.rec (fun x => indexStr ty t i x) (fun cs => indexArr ty t i cs) x
def isStrT (ty : Tys) (t : TypeId) : Bool := Option.rec false (fun T => match T.d with | .str => true | _ => false) (ty t)
def sliceS (ty : Tys) (t : TypeId) (lo hi mx : Option Int) (x : S) : Option S :=
  match x with
  | .ptr l o => ob (arrOf ty t) fun q => bif q.2.size == 0 then none else cutAny l o q.1 q.2.size (some q.1) lo hi mx
  | .str s => bif isStrT ty t then Option.rec (cutStr s lo hi) (fun _ => none) mx else none
  | .sl l o n z c => ob (elemOf ty t) fun E => bif E.size == z then cutAny l o n z c lo hi mx else none
  | .nils => ob (elemOf ty t) fun _ => Option.rec (cutNil lo hi) (fun _ => none) mx
  | _ => none
def sliceOp (ty : Tys) (fr : Fr) (t : TypeId) (x : Operand) (lo hi mx : Option Operand) : Option V :=
  ob (evS fr x) fun x => ob (optInt fr lo) fun lo => ob (optInt fr hi) fun hi => ob (optInt fr mx) fun mx => ob (sliceS ty t lo hi mx x) vS
def numO' (fr : Fr) (x : Option Operand) : Option (Option N) := Option.rec (some none) (fun x => ob (evS fr x) fun x => ob x.num fun p => some (some p.2)) x
def isNoneO {α : Type} (x : Option α) : Bool := Option.rec true (fun _ => false) x
/-- a string cut at numbers that are not written out -/
def cutK (ty : Tys) (fr : Fr) (t : TypeId) (x : Operand) (lo hi mx : Option Operand) : Option V :=
  bif isNoneO mx && isStrT ty t then ob (evS fr x) fun x => ob x.txt fun l => ob (numO' fr lo) fun a => ob (numO' fr hi) fun b => ob (findCt l (a.getD (.c 0)) b Know.ct) fun m => vS (.xs m) else none
def stPlace (ty : Tys) (p : Nat × TypeId) : Option (Nat × Nat) := ob (ty p.2) fun F => some (p.1, F.size)
def buildD (ty : Tys) (T : Ty) (ps : List (Nat × A)) : Option V :=
  match T.d with
  | .st fs => ob (mapO (stPlace ty) fs) fun pl => ob (fill (nth pl) ps T.zero) fun cs => vA (.g cs)
  | .arr _ e => ob (ty e) fun E => ob (fill (fun i => some (i * E.size, E.size)) ps T.zero) fun cs => vA (.g cs)
  | _ => none
def buildOp (ty : Tys) (fr : Fr) (t : TypeId) (ps : List (Nat × Operand)) : Option V := ob (ty t) fun T => ob (evParts fr ps) fun ps => buildD ty T ps
def makeFuncOp (fr : Fr) (fn : Fn) (first captured : List Operand) : Option V :=
  match fn, first with
  | .func f, [] => ob (mapO (evPtr fr) captured) fun cs => vS (.fn f cs)
  | _, _ => none
def nilCheckOp (fr : Fr) (x : Operand) : Option V := ob (evPtr fr x) fun p => vS (.ptr p.1 p.2)
def lenS (x : A) : Option Nat :=
  match x with
  | .s (.str s) => some s.length
  | .s (.sl _ _ n _ _) => some n
  | .s .sle => some 0
  | .s .nils => some 0
  | _ => none
def lenD (d : D) (x : A) : Option Nat :=
  match d with
  | .str => (match x with | .s (.str s) => some s.length | _ => none)
  | .sl _ => (match x with | .s (.sl _ _ n _ _) => some n | .s .sle => some 0 | .s .nils => some 0 | _ => none)
  | .arr n _ => some n
  | _ => none
def lenXs (d : D) (x : A) : Option V :=
  match d, x with
  | .str, .s (.xs l) => ob (findLn l Know.ln) fun j => vS (.xi .i64 j)
  | _, _ => none
def lenOp (ty : Tys) (fr : Fr) (ts : List TypeId) (xs : List Operand) : Option V :=
  match ts, xs with
  | t :: _, [x] => ob (ty t) fun T => ob (evA fr x) fun x => orO (ob (lenD T.d x) fun n => vS (.int .i64 n)) (lenXs T.d x)
  | _, _ => none
def foldOp (fr : Fr) (f : S → S → Option S) (xs : List Operand) : Option V :=
  ob (mapO (evS fr) xs) fun l => match l with | x :: r => ob (foldS f x r) vS | [] => none
def pureBuiltin (ty : Tys) (fr : Fr) (c : Call) (b : Builtin) : Option V :=
  match b with
  | .len => lenOp ty fr c.argTypes.toList c.args.toList
  | .max => foldOp fr maxI c.args.toList
  | .min => foldOp fr minI c.args.toList
  | _ => none

def Heap.read (h : Heap) (l o n : Nat) : Option (List S) := ob (h.get l) fun b => ext b.cells o n
/-- the cells of what is appended -/
def srcCells (h : Heap) (x : S) : Option (Nat × List S) :=
  match x with
  | .sl l o n z _ => ob (h.read l o (n * z)) fun c => some (n, c)
  | .sle => some (0, [])
  | .nils => some (0, [])
  | .str s => some (s.length, s.map fun b => .int .u8 b.toNat)
  | _ => none

abbrev R := Option (V × Heap)
def orR (r : R) (k : R) : R := Option.rec k some r
def loadOp (ty : Tys) (fr : Fr) (h : Heap) (t : TypeId) (x : Operand) : R :=
  ob (ty t) fun T => ob (evPtr fr x) fun p => ob (h.read p.1 p.2 T.size) fun cs => ob (T.mk' cs) fun v => some (.a v, h)
def newAt (h : Heap) (cs : List S) : R := some (.a (.s (.ptr h.next 0)), h.alloc cs)
def allocOp (ty : Tys) (h : Heap) (t : TypeId) : R := ob (ty t) fun T => newAt h T.zero
def boxOp (fr : Fr) (h : Heap) (x : Operand) : R := ob (evA fr x) fun v => newAt h v.cells
def newSl (h : Heap) (n z : Nat) (c : Option Nat) (cs : List S) : R := some (.a (.s (.sl h.next 0 n z c)), h.alloc cs)
def okE (E : Ty) : Bool := Nat.ble E.bytes 65536 && (!(E.size == 0)) && E.zero.length == E.size
def buildSliceOp (ty : Tys) (fr : Fr) (h : Heap) (t : TypeId) (len : Nat) (ps : List (Nat × Operand)) : R :=
  ob (elemOf ty t) fun E => ob (evParts fr ps) fun ps =>
    bif okE E && Nat.ble (len * E.size) 65536 then ob (fill (fun i => some (i * E.size, E.size)) ps (rep len E.zero)) (newSl h len E.size (some len)) else none
def natOf (n : Int) : Option Nat := Int.rec some (fun _ => none) n
def makeSliceOp (ty : Tys) (fr : Fr) (h : Heap) (t : TypeId) (len cap : Operand) : R :=
  ob (elemOf ty t) fun E => ob (evInt fr len) fun n => ob (natOf n) fun n => ob (evInt fr cap) fun c => ob (natOf c) fun c =>
    bif okE E && Nat.ble n c && Nat.ble c 65536 then newSl h n E.size (some c) (rep c E.zero) else none
def u8T (ty : Tys) (t : TypeId) : Bool := Option.rec false (fun E => match E.d with | .int .u8 => E.size == 1 | _ => false) (elemOf ty t)
def u8S (x : S) : Option UInt8 := match x with | .int .u8 n => some (UInt8.ofNat n.toNat) | _ => none
def strOf (h : Heap) (x : S) : R :=
  match x with
  | .nils => some (.a (.s (.str [])), h)
  | .sle => some (.a (.s (.str [])), h)
  | .sl l o n z _ => bif z == 1 then ob (h.read l o n) fun cs => ob (mapO u8S cs) fun bs => some (.a (.s (.str bs)), h) else none
  | _ => none
/-- (not done: such a row bears a mark behind its end) -/
def bytesOf (_ : Heap) (_ : S) : R := none
def convQ (ty : Tys) (fr : Fr) (h : Heap) (src dst : TypeId) (x : Operand) : R :=
  ob (evS fr x) fun x =>
    bif isStrT ty dst && u8T ty src then strOf h x else bif isStrT ty src && u8T ty dst then bytesOf h x else none
def okApp (E : Ty) (k : Nat) (cs : List S) : Bool := okE E && Nat.ble k 65536 && cs.length == k * E.size
/-- append that makes a new row, or adds nothing -/
def appQ (h : Heap) (E : Ty) (k : Nat) (cs : List S) (s : S) : R :=
  match s with
  | .nils => bif k == 0 then some (.a (.s .nils), h) else newSl h k E.size none cs
  | .sl l o n z (some q) => bif z == E.size && Nat.ble n 65536 then
      (bif k == 0 then some (.a (.s (.sl l o n z (some q))), h) else bif Nat.ble (n + k) q then none else
        ob (h.read l o (n * z)) fun old => newSl h (n + k) z none (old ++ cs)) else none
  | .sl l o n z none => bif z == E.size && Nat.ble n 65536 && k == 0 then some (.a (.s (.sl l o n z none)), h) else none
  | _ => none
/-- append that may write behind what is there -/
def appW (h : Heap) (fl : Nat) (k : Nat) (cs : List S) (s : S) : R :=
  match s with
  | .sl l o n z (some c) => bif Nat.ble n 65536 && Nat.ble (n + k) c && Nat.ble fl l then
      ob (h.get l) fun b => bif b.own then ob (lay b.cells (o + n * z) cs) fun cs' => some (.a (.s (.sl l o (n + k) z (some c))), ⟨Hp.set h.m l ⟨cs', true⟩, h.next⟩) else none else none
  | .sl l o n z none => bif Nat.ble n 65536 && Nat.ble fl l && o == 0 then
      ob (h.get l) fun b => bif b.own && Nat.ble (n * z) b.cells.length then
        some (.a (.s (.sl h.next 0 (n + k) z none)), ⟨(h.next, ⟨b.cells.take (n * z) ++ cs, true⟩) :: Hp.del h.m l, h.next + 1⟩) else none else none
  | _ => none
def szS (s : S) : Nat := match s with | .sl _ _ _ z _ => z | _ => 0
def isSeq (ty : Tys) (t : TypeId) : Bool := Option.rec false (fun T => match T.d with | .str => true | .sl _ => true | _ => false) (ty t)
def appOp (ty : Tys) (fr : Fr) (h : Heap) (ts : List TypeId) (xs : List Operand) (k : Ty → Nat → List S → S → R) : R :=
  match ts, xs with
  | [t, u], [s, x] => bif isSeq ty u then ob (elemOf ty t) fun E => ob (evS fr s) fun s => ob (evS fr x) fun x => ob (srcCells h x) fun p => bif okApp E p.1 p.2 then k E p.1 p.2 s else none else none
  | _, _ => none
def appQOp (ty : Tys) (fr : Fr) (h : Heap) (c : Call) : R := appOp ty fr h c.argTypes.toList c.args.toList (fun E k cs s => appQ h E k cs s)
def appWOp (ty : Tys) (fr : Fr) (h : Heap) (fl : Nat) (c : Call) : R := appOp ty fr h c.argTypes.toList c.args.toList (fun E k cs s => bif szS s == E.size then appW h fl k cs s else none)
/-- a truth value 'true' laid where a number that is not written out says -/
def addE (i : Nat) : Nat → List S → Option (List S)
  | _, [] => some []
  | j, x :: r => ob (match x with | .bool true => some (.bool true) | .bool false => some (.xe [(i, (j : Int))]) | .xe l => some (.xe ((i, (j : Int)) :: l)) | _ => none) fun y => ob (addE i (j + 1) r) fun r => some (y :: r)
def storeX (ty : Tys) (h : Heap) (fl : Nat) (t : TypeId) (x v : S) : R :=
  match x, v with
  | .px l o n i, .bool true => ob (ty t) fun T => bif T.size == 1 && Nat.ble fl l then
      ob (h.get l) fun b => bif b.own then ob (ext b.cells o n) fun cs => ob (addE i 0 cs) fun cs => ob (lay b.cells o cs) fun cs => some (undef, ⟨Hp.set h.m l ⟨cs, true⟩, h.next⟩) else none else none
  | _, _ => none
def storeXOp (ty : Tys) (fr : Fr) (h : Heap) (fl : Nat) (t : TypeId) (x v : Operand) : R := ob (evS fr x) fun x => ob (evS fr v) fun v => storeX ty h fl t x v
def storeOp (ty : Tys) (fr : Fr) (h : Heap) (fl : Nat) (t : TypeId) (x v : Operand) : R :=
  ob (ty t) fun T => ob (evPtr fr x) fun p => ob (evA fr v) fun v =>
    bif v.cells.length == T.size && Nat.ble fl p.1 then
      ob (h.get p.1) fun b => bif b.own then ob (lay b.cells p.2 v.cells) fun cs => some (undef, ⟨Hp.set h.m p.1 ⟨cs, true⟩, h.next⟩) else none else none
/-- clear of a slice -/
def clearS (h : Heap) (fl : Nat) (E : Ty) (s : S) : R :=
  match s with
  | .nils => some (undef, h)
  | .sle => some (undef, h)
  | .sl l o n z _ => bif n == 0 then some (undef, h) else bif z == E.size && okE E && Nat.ble fl l then
      ob (h.get l) fun b => bif b.own then ob (lay b.cells o (rep n E.zero)) fun cs => some (undef, ⟨Hp.set h.m l ⟨cs, true⟩, h.next⟩) else none else none
  | _ => none
def clearOp (ty : Tys) (fr : Fr) (h : Heap) (fl : Nat) (ts : List TypeId) (xs : List Operand) : R :=
  match ts, xs with
  | [t], [x] => ob (elemOf ty t) fun E => ob (evS fr x) fun s => clearS h fl E s
  | _, _ => none
/-- a call of a Go function -/
def callOp (C : Ctx) (fr : Fr) (h : Heap) (fl : Nat) (f : Operand) (as : List Operand) : R :=
  ob (evS fr f) fun f => ob (mapO (evA fr) as) fun as => match f with
    | .fn f cs => C.call f (as ++ cs.map fun p => .s (.ptr p.1 p.2)) h fl
    | _ => none

/-! lists of the arguments -/
def Tabs.lenOf (T : Tabs) (k : Nat) : Option Nat := List.rec Option.none (fun p _ ih => bif Nat.beq p.1 k then some p.2 else ih) T.len
def Tabs.elOf (T : Tabs) (k : Nat) (i : N) : Option (List S) := List.rec Option.none (fun p _ ih => bif Nat.beq p.1 k && p.2.1.eqv i then some p.2.2 else ih) T.el
def Tabs.addOf (T : Tabs) (i : Nat) (c : Int) : Option Nat := List.rec Option.none (fun p _ ih => bif Nat.beq p.1 i && decide (p.2.1 = c) then some p.2.2 else ih) T.add
/-- sums and differences of numbers that are not written out -/
def sumS (op : BinOp) (x y : S) : Option Nat := match op, x, y with
  | .sub, .xi .i64 i, .xi .i64 j => find2 i j Know.sb
  | .add, .xi .i64 i, .int .i64 c => findAd i c Know.ad
  | .add, .int .i64 c, .xi .i64 i => findAd i c Know.ad
  | _, _, _ => none
def sumK (fr : Fr) (op : BinOp) (x y : Operand) : Option V := ob (evS fr x) fun x => ob (evS fr y) fun y => ob (sumS op x y) fun k => vS (.xi .i64 k)
def addL (T : Tabs) (fr : Fr) (op : BinOp) (x y : Operand) : Option V :=
  match op with
  | .add => ob (evS fr x) fun x => ob (evS fr y) fun y => (match x, y with | .xi .i64 i, .int .i64 c => ob (T.addOf i c) fun j => vS (.xi .i64 j) | _, _ => none)
  | _ => none
def S.isRv (x : S) : Option Nat := match x with | .rv k => some k | _ => none
def S.isPe (x : S) : Option (Nat × N × Nat) := match x with | .pe k i o => some (k, i, o) | _ => none
def lenL (T : Tabs) (ty : Tys) (fr : Fr) (ts : List TypeId) (xs : List Operand) : Option V :=
  match ts, xs with
  | t :: _, [x] => ob (elemOf ty t) fun _ => ob (evS fr x) fun x => ob x.isRv fun k => ob (T.lenOf k) fun j => vS (.xi .i64 j)
  | _, _ => none
def indexL (T : Tabs) (ty : Tys) (fr : Fr) (t : TypeId) (x i : Operand) : Option V :=
  ob (evS fr x) fun x => ob x.isRv fun k => ob (evS fr i) fun i => ob i.num fun n => ob (T.elOf k n.2) fun cs => ob (elemOf ty t) fun E => bif Nat.beq E.size cs.length then vS (.pe k n.2 0) else none
def fieldL (ty : Tys) (fr : Fr) (s : TypeId) (x : Operand) (f : Nat) : Option V :=
  ob (evS fr x) fun x => ob x.isPe fun p => ob (fieldOf ty s f) fun q => bif q.2.size == 0 then none else vS (.pe p.1 p.2.1 (p.2.2 + q.1))
def loadL (T : Tabs) (ty : Tys) (fr : Fr) (t : TypeId) (x : Operand) : Option V :=
  ob (evS fr x) fun x => ob x.isPe fun p => ob (T.elOf p.1 p.2.1) fun cs => ob (ty t) fun U => ob (ext cs p.2.2 U.size) fun c => ob (U.mk' c) vA

/-- how an operation is done: without memory; reading or making memory; writing -/
inductive How where
  | p (r : Option V)
  | q (r : R)
  | w (r : R)
  | qw (r : R) (r' : R)
  | c (f : Operand) (as : List Operand)
def howBuiltin (C : Ctx) (fr : Fr) (h : Heap) (hw : Heap) (fl : Nat) (c : Call) (b : Builtin) : How :=
  match b with
  | .append => .qw (appQOp C.ty fr h c) (appWOp C.ty fr hw fl c)
  | .clear => .w (clearOp C.ty fr hw fl c.argTypes.toList c.args.toList)
  | .len => .p (orO (pureBuiltin C.ty fr c .len) (lenL C.tb C.ty fr c.argTypes.toList c.args.toList))
  | b => .p (pureBuiltin C.ty fr c b)
def howCall (C : Ctx) (fr : Fr) (h : Heap) (hw : Heap) (fl : Nat) (c : Call) (k : Callee) : How :=
  match k with
  | .value f => .c f c.args.toList
  | .builtin b => howBuiltin C fr h hw fl c b
  | .invoke .. => .p none
def howConv (C : Ctx) (fr : Fr) (h : Heap) (src dst : TypeId) (x : Operand) : How :=
  match convOp C.ty fr src dst x with
  | some v => .p (some v)
  | none => .q (convQ C.ty fr h src dst x)
def howLoad (C : Ctx) (fr : Fr) (h : Heap) (t : TypeId) (x : Operand) : How :=
  match loadL C.tb C.ty fr t x with
  | some v => .p (some v)
  | none => .q (loadOp C.ty fr h t x)
/-- 'h' is the memory for what does not write, 'hw' for what writes -/
def how (C : Ctx) (fr : Fr) (h hw : Heap) (fl : Nat) (o : Op) : How :=
  match o with
  | .move x => .p (ev fr x)
  | .assign x => .p (ev fr x)
  | .pick c a b => .p (pickOp fr c a b)
  | .binOp op t x y _ => .p (orO (binOp' C.ty fr op t x y) (orO (addL C.tb fr op x y) (sumK fr op x y)))
  | .unOp op _ x => .p (unOp' fr op x)
  | .convert src dst x => howConv C fr h src dst x
  | .extract t i => .p (extractOp fr t i)
  | .fieldAddr s x f => .p (orO (fieldAddrOp C.ty fr s x f) (fieldL C.ty fr s x f))
  | .field s x f => .p (fieldOp C.ty fr s x f)
  | .indexAddr t x i => .p (orO (indexAddrOp C.ty fr t x i) (indexL C.tb C.ty fr t x i))
  | .index t x i => .p (indexOp C.ty fr t x i)
  | .slice t x lo hi mx => .p (orO (sliceOp C.ty fr t x lo hi mx) (cutK C.ty fr t x lo hi mx))
  | .build t ps => .p (buildOp C.ty fr t ps.toList)
  | .makeFunc fn first captured => .p (makeFuncOp fr fn first.toList captured.toList)
  | .nilCheck x => .p (nilCheckOp fr x)
  | .call c => howCall C fr h hw fl c c.callee
  | .load t x => howLoad C fr h t x
  | .alloc t => .q (allocOp C.ty h t)
  | .box _ x => .q (boxOp fr h x)
  | .buildSlice t len ps => .q (buildSliceOp C.ty fr h t len ps.toList)
  | .makeSlice t len cap => .q (makeSliceOp C.ty fr h t len cap)
  | .store t x v => .w (orR (storeOp C.ty fr hw fl t x v) (storeXOp C.ty fr hw fl t x v))
  | _ => .p none

def noPtr (x : A) : Bool := x.cells.all fun s => match s with | .ptr .. => false | .fn .. => false | .px .. => false | _ => true
/-- a call, first as one that writes nothing that was there -/
def callQ (C : Ctx) (fr : Fr) (h : Heap) (fl : Nat) (f : Operand) (as : List Operand) : R :=
  ob (mapO (evA fr) as) fun vs => bif vs.all noPtr && Nat.ble fl h.next then orR (callOp C fr h h.next f as) (callOp C fr h fl f as) else callOp C fr h fl f as
/-- one operation, in order -/
def runHow (C : Ctx) (fr : Fr) (h : Heap) (fl : Nat) (w : How) : R :=
  match w with
  | .p r => ob r fun v => some (v, h)
  | .q r => r
  | .w r => r
  | .qw r r' => orR r r'
  | .c f as => callQ C fr h fl f as
def opr (C : Ctx) (fr : Fr) (h : Heap) (fl : Nat) (o : Op) : R := runHow C fr h fl (how C fr h h fl o)

def putV (fr : Fr) (d : Option Tmp) (v : V) : Fr := Option.rec fr (fun d => upd fr d v) d
def boolV (v : V) : Option Bool := ob v.isA fun x => ob x.isS S.isBool
def yieldedV (ops : List Oper) (fr : Fr) (j : Nat) : Option Bool := ob (nth ops j) fun o => ob o.dst fun d => ob (nth fr d) boolV
/-- what guards an operation is written out -/
def darkV (v : V) : Bool := match v with | .a (.s (.xe l)) => Option.rec true (fun _ => false) (anyE l) | .a (.s (.xa l _)) => Option.rec true (fun _ => false) (allK l) | .any => true | .a (.s .top) => true | _ => false
def guardOk (ops : List Oper) (o : Oper) (fr : Fr) : Bool :=
  Option.rec true (fun g => Option.rec true (fun q => Option.rec true (fun d => Option.rec true (fun v => !(darkV v)) (nth fr d)) q.dst) (nth ops g.1)) o.guard
def wantedV (ops : List Oper) (o : Oper) (fr : Fr) : Bool :=
  Option.rec true (fun g => Option.rec false (fun b => b == g.2) (yieldedV ops fr g.1)) o.guard

/-- a region whose order is the text's -/
def listR (C : Ctx) (fl : Nat) (ops : List Oper) (l : List Oper) : St → Option St :=
  List.rec (fun s => some s) (fun o _ ih s =>
    bif guardOk ops o s.fr then
      bif wantedV ops o s.fr then ob (opr C s.fr s.h fl o.op) fun r => ih ⟨putV s.fr o.dst r.1, r.2⟩
      else ih ⟨putV s.fr o.dst undef, s.h⟩
    else none) l

/-- a region whose order is drawn: the operations come in any order that the edges allow -/
structure RS where
  fr : Fr
  hb : Hp
  ds : List Hp
  an : List Nat
  cl : List Nat
  os : List Oper
  nx : Nat
def maskOf (an : List Nat) (o : Oper) : Nat :=
  o.after.toList.foldl (fun s e => bif Region.binds .any e then Nat.lor (Nat.lor s (Nat.shiftLeft 1 e.on)) ((nth an e.on).getD 0) else s) 0
def edgesOk (i : Nat) (o : Oper) : Bool := o.after.toList.all fun e => !Region.binds .any e || Nat.blt e.on i
def selD (m : Nat) : Nat → List Hp → Hp
  | _, [] => []
  | i, d :: r => bif Nat.testBit m i then d ++ selD m (i + 1) r else selD m (i + 1) r
def lookV (ops : List Oper) (o : Oper) : List Tmp :=
  (o.op.operands.toList.filterMap fun | .tmp t => some t | _ => none) ++
    (match o.guard with | some (j, _) => (match nth ops j with | some g => (match g.dst with | some d => [d] | none => []) | none => []) | none => [])
def apartV (ops : List Oper) (x y : Oper) : Bool :=
  (match x.dst with | some d => (lookV ops y).all (fun t => !(t == d)) && (match y.dst with | some e => !(d == e) | none => true) | none => true) &&
  (match y.dst with | some d => (lookV ops x).all (fun t => !(t == d)) | none => true)
/-- every operation before comes before by the edges, or has nothing to do with this one -/
def pairsOk (ops : List Oper) (o : Oper) (c m : Nat) : Nat → List Oper → List Nat → Bool
  | i, x :: xs, k :: ks => (Nat.testBit m i || (apartV ops x o && !(c == 2 && !(k == 0)) && !(k == 2 && !(c == 0)))) && pairsOk ops o c m (i + 1) xs ks
  | _, _, _ => true
def newD (n : Nat) (m : Hp) : Hp := m.filter fun p => Nat.ble n p.1

def endP (ops : List Oper) (s : RS) (o : Oper) (m : Nat) (v : V) : Option RS :=
  bif pairsOk ops o 0 m 0 s.os s.cl then some ⟨putV s.fr o.dst v, s.hb, s.ds ++ [[]], s.an ++ [m], s.cl ++ [0], s.os ++ [o], s.nx⟩ else none
def endQ (ops : List Oper) (s : RS) (o : Oper) (m : Nat) (r : V × Heap) : Option RS :=
  bif pairsOk ops o 1 m 0 s.os s.cl && Nat.ble s.nx r.2.next then some ⟨putV s.fr o.dst r.1, s.hb, s.ds ++ [newD s.nx r.2.m], s.an ++ [m], s.cl ++ [1], s.os ++ [o], r.2.next⟩ else none
def endW (ops : List Oper) (s : RS) (o : Oper) (m : Nat) (r : V × Heap) : Option RS :=
  bif pairsOk ops o 2 m 0 s.os s.cl && Nat.ble s.nx r.2.next then some ⟨putV s.fr o.dst r.1, r.2.m, (s.ds ++ [[]]).map (fun _ => []), s.an ++ [m], s.cl ++ [2], s.os ++ [o], r.2.next⟩ else none
def orRS (r : Option RS) (k : Option RS) : Option RS := Option.rec k some r
def runD (C : Ctx) (fl : Nat) (ops : List Oper) (s : RS) (o : Oper) (m : Nat) (hq hw : Heap) (w : How) : Option RS :=
  match w with
  | .p r => ob r (endP ops s o m)
  | .q r => ob r (endQ ops s o m)
  | .w r => ob r (endW ops s o m)
  | .qw r r' => Option.rec (ob r' (endW ops s o m)) (endQ ops s o m) r
  | .c f as => Option.rec (ob (callOp C s.fr hw fl f as) (endW ops s o m)) (endQ ops s o m) (callOp C s.fr hq s.nx f as)
def stepD (C : Ctx) (fl : Nat) (ops : List Oper) (s : RS) (o : Oper) (m : Nat) : Option RS :=
  bif edgesOk s.os.length o && guardOk ops o s.fr then
    (bif wantedV ops o s.fr then
      runD C fl ops s o m ⟨selD m 0 s.ds ++ s.hb, s.nx⟩ ⟨s.ds.flatten ++ s.hb, s.nx⟩ (how C s.fr ⟨selD m 0 s.ds ++ s.hb, s.nx⟩ ⟨s.ds.flatten ++ s.hb, s.nx⟩ fl o.op)
    else endP ops s o m undef)
  else none
def anyR (C : Ctx) (fl : Nat) (ops : List Oper) (l : List Oper) : RS → Option RS :=
  List.rec (fun s => some s) (fun o _ ih s => ob (stepD C fl ops s o (maskOf s.an o)) ih) l

/-! loads from memory that stays as it was while the region runs: they may come at any time -/
structure Fs where
  rs : RS
  ls : List Nat
  ts : List Nat
/-- the block that an operation writes -/
def tgtOf (fr : Fr) (o : Oper) : Option Nat := match o.op with
  | .store _ x _ => ob (evS fr x) fun s => (match s with | .ptr l _ => some l | .px l _ _ _ => some l | _ => none)
  | .call c => (match c.callee, c.args.toList with
    | .builtin .append, s :: _ => ob (evS fr s) fun s => (match s with | .sl l _ _ _ _ => some l | _ => none)
    | _, _ => none)
  | _ => none
def freeLoad (C : Ctx) (fr : Fr) (h0 : Heap) (o : Oper) : Option (Nat × V) := match o.op with
  | .load t x => ob (C.ty t) fun T => ob (evPtr fr x) fun p => ob (h0.read p.1 p.2 T.size) fun cs => ob (T.mk' cs) fun v => some (p.1, .a v)
  | _ => none
def masksOf (ops : List Oper) : List Nat := ops.foldl (fun an o => an ++ [maskOf an o]) []
def isW (o : Oper) : Bool := match o.op with | .store .. => true | .call _ => true | _ => false
/-- something that may write has no order with it -/
def looseAt (an : List Nat) (i : Nat) : Nat → List Oper → Bool
  | _, [] => false
  | j, o :: r => (isW o && !(Nat.beq j i) && !(bif Nat.blt i j then Nat.testBit ((nth an j).getD 0) i else Nat.testBit ((nth an i).getD 0) j)) || looseAt an i (j + 1) r
def looseL (C : Ctx) (fr : Fr) (h0 : Heap) (o : Oper) (b : Bool) : Option (Nat × V) := bif b then freeLoad C fr h0 o else none
def lastK (cl : List Nat) : Nat := cl.foldl (fun _ k => k) 0
def stepF (C : Ctx) (fl : Nat) (ops : List Oper) (an : List Nat) (h0 : Heap) (s : Fs) (o : Oper) (m : Nat) : Option Fs :=
  bif edgesOk s.rs.os.length o && guardOk ops o s.rs.fr then
    (bif wantedV ops o s.rs.fr then
      Option.rec (ob (stepD C fl ops s.rs o m) fun r => bif lastK r.cl == 2 then ob (tgtOf s.rs.fr o) fun t => some ⟨r, s.ls, t :: s.ts⟩ else some ⟨r, s.ls, s.ts⟩)
        (fun p => ob (endP ops s.rs o m p.2) fun r => some ⟨r, p.1 :: s.ls, s.ts⟩) (looseL C s.rs.fr h0 o (looseAt an s.rs.os.length 0 ops))
    else ob (stepD C fl ops s.rs o m) fun r => some ⟨r, s.ls, s.ts⟩)
  else none
def freeR (C : Ctx) (fl : Nat) (ops : List Oper) (an : List Nat) (h0 : Heap) (l : List Oper) : Fs → Option Fs :=
  List.rec (fun s => some s) (fun o _ ih s => ob (stepF C fl ops an h0 s o (maskOf s.rs.an o)) ih) l
def drawF (C : Ctx) (fl : Nat) (ops : List Oper) (s : St) : Option St :=
  ob (freeR C fl ops (masksOf ops) s.h ops ⟨⟨s.fr, s.h.m, [], [], [], [], s.h.next⟩, [], []⟩) fun r =>
    bif r.ls.all (fun l => r.ts.all fun t => !(t == l)) then some ⟨r.rs.fr, ⟨r.rs.ds.flatten ++ r.rs.hb, r.rs.nx⟩⟩ else none
def drawR (C : Ctx) (fl : Nat) (ops : List Oper) (s : St) : Option St :=
  ob (anyR C fl ops ops ⟨s.fr, s.h.m, [], [], [], [], s.h.next⟩) fun r => some ⟨r.fr, ⟨r.ds.flatten ++ r.hb, r.nx⟩⟩
def orS (r : Option St) (k : Option St) : Option St := Option.rec k some r
def region (C : Ctx) (fl : Nat) (ops : List Oper) (draw : Bool) (s : St) : Option St :=
  bif draw then orS (drawR C fl ops s) (drawF C fl ops s) else listR C fl ops ops s

def nrm (s : St) : XS := some (.normal, s)
/-- go on if it ended normally -/
def thenX (r : XS) (k : St → XS) : XS := Option.rec none (fun p => X.rec (k p.2) (fun id => some (.exit id, p.2)) (some (.ret, p.2)) p.1) r
def blockX (id : Nat) (r : XS) : XS := Option.rec none (fun p => X.rec (nrm p.2) (fun j => bif j == id then nrm p.2 else some (.exit j, p.2)) (some (.ret, p.2)) p.1) r
def rounds (f : St → XS) (n : Nat) : St → XS := Nat.rec (fun _ => none) (fun _ ih s => thenX (f s) ih) n
def condX (c : Option S) (a b : XS) : XS := ob c fun x => ob x.isBool fun t => bif t then a else b

/-- a piece of code's number: that of its first region -/
def _root_.Go.Code.tag (c : Code) : Nat :=
  Code.rec (motive := fun _ => Nat) 0 (fun id _ _ => id + 1) (fun _ _ a b => bif Nat.beq a 0 then b else a) (fun _ _ _ a b => bif Nat.beq a 0 then b else a) (fun _ _ a => a) (fun _ a => a) (fun _ _ _ _ _ _ => 0) (fun _ => 0) (fun _ a => a) (fun _ => 0) (fun _ => 0) 0 (fun _ => 0) c
def orXS (r k : XS) : XS := Option.rec k some r
def exec (C : Ctx) (fl n : Nat) (c : Code) : St → XS :=
  Code.rec (motive := fun _ => St → XS)
    nrm
    (fun _ ops draw s => ob (region C fl ops.toList draw s) nrm)
    (fun _ _ ia ib s => thenX (ia s) ib)
    (fun c _ _ ia ib s => condX (evS s.fr c) (ia s) (ib s))
    (fun id _ ib s => blockX id (ib s))
    (fun c ib s => orXS (C.loop (Code.tag c) fl s) (rounds ib n s))
    (fun _ _ _ _ _ _ _ => none)
    (fun id s => some (.exit id, s))
    (fun _ ib s => ib s)
    (fun _ s => nrm s)
    (fun _ _ => none)
    (fun s => some (.ret, s))
    (fun _ _ => none)
    c

/-- a result, read off a slot or off memory -/
def resOf (C : Ctx) (s : St) (r : ResultVar) : Option A :=
  match r with
  | .tmp t => ob (nth s.fr t) V.isA
  | .cell x t => ob (C.ty t) fun T => ob (nth s.fr x) fun v => ob v.isA fun y => ob y.isS fun y => ob y.isPtr fun p => ob (s.h.read p.1 p.2 T.size) T.mk'
def resV (l : List A) : V :=
  match l with
  | [x] => .a x
  | l => .t l
def S.flat (x : S) : Bool := match x with
  | .bool _ | .int .. | .str _ | .nilp | .nils | .nili | .ifc | .sle | .xi .. | .xs _ | .xe _ | .xa .. | .rv _ => true
  | _ => false
def A.flat (x : A) : Bool := x.cells.all S.flat
/-! what nobody can look at any more is forgotten -/
def S.refs (x : S) : List Nat := match x with | .ptr l _ => [l] | .px l _ _ _ => [l] | .sl l _ _ _ _ => [l] | .fn _ cs => cs.map fun p => p.1 | _ => []
def memN (l : Nat) : List Nat → Bool := List.rec false fun x _ ih => Nat.beq x l || ih
def reachF (m : Hp) (n : Nat) : List Nat → List Nat → List Nat :=
  Nat.rec (fun _ seen => seen) (fun _ ih todo seen => match todo with
    | [] => seen
    | l :: r => bif memN l seen then ih r seen else ih (Option.rec r (fun b => b.cells.flatMap S.refs ++ r) (Hp.get m l)) (l :: seen)) n
def rootsOf (rs : List A) : List Nat := rs.flatMap fun x => x.cells.flatMap S.refs
def trimH (n : Nat) (rs : List A) (h : Heap) : Heap :=
  ⟨h.m.filter (fun p => Nat.blt p.1 n || memN p.1 (reachF h.m 1000 (rootsOf rs) [])), h.next⟩
def bodyEnd (C : Ctx) (fn : Func) (h : Heap) (fl : Nat) (s : St) : R :=
  ob (mapO (resOf C s) fn.results.toList) fun rs => bif Nat.ble h.next fl then (bif rs.all A.flat then some (resV rs, h) else some (resV rs, trimH h.next rs s.h)) else some (resV rs, s.h)
/-- the body of a function -/
def body (C : Ctx) (n : Nat) (fn : Func) (args : List A) (h : Heap) (fl : Nat) : R :=
  ob fn.body fun c => ob (exec C fl n c ⟨args.map V.a ++ List.replicate (fn.ntmps - args.length) undef, h⟩) fun p =>
    X.rec (bodyEnd C fn h fl p.2) (fun _ => none) (bodyEnd C fn h fl p.2) p.1

/-- a call without references runs in a memory of its own: the same calls come to the same terms -/
def flatT (ty : Tys) (n : Nat) : TypeId → Bool :=
  Nat.rec (fun _ => false) (fun _ ih t => Option.rec false (fun T => match T.d with | .one => true | .int _ => true | .str => true | .st fs => fs.all (fun p => ih p.2) | .arr _ e => ih e | _ => false) (ty t)) n
def flatF (ty : Tys) (F : Func) : Bool := F.resultTypes.toList.all (flatT ty 6)
def V.flat (x : V) : Bool := match x with | .a x => x.flat | .t l => l.all A.flat | .any => false
section
variable {β : Type}
def S.force (x : S) (k : S → β) : β :=
  match x with
  | .bool b => k (.bool b)
  | .int a n => k (.int a n)
  | .str s => k (.str s)
  | .nilp => k .nilp
  | .nils => k .nils
  | .nili => k .nili
  | .xi a i => k (.xi a i)
  | .xs l => k (.xs l)
  | .xe l => k (.xe l)
  | .xa l b => k (.xa l b)
  | .rv j => k (.rv j)
  | x => k x
def forceS (l : List S) : (List S → β) → β := List.rec (fun k => k []) (fun x _ ih k => x.force fun x => ih fun t => k (x :: t)) l
def A.force (x : A) (k : A → β) : β := match x with | .s x => x.force fun x => k (.s x) | .g l => forceS l fun l => k (.g l)
def forceA (l : List A) : (List A → β) → β := List.rec (fun k => k []) (fun x _ ih k => x.force fun x => ih fun t => k (x :: t)) l
end
def callF (C : Ctx) (n : Nat) (F : Func) (args : List A) (h : Heap) (fl : Nat) : R :=
  bif flatF C.ty F && args.all A.flat then forceA args fun args => ob (body C n F args ⟨[], 0⟩ 0) fun p => bif p.1.flat then some (p.1, h) else none
  else body C n F args h fl
def runsL (ty : Tys) (fn : FuncId → Option Func) (lib : Oracle) (tb : Tabs) (loops : FuncId → Loops) (n : Nat) (d : Nat) : Oracle :=
  Nat.rec (fun _ _ _ _ => none) (fun _ ih f args h fl => orR (lib f args h fl) (ob (fn f) fun F => callF ⟨ty, ih, tb, loops f⟩ n F args h fl)) d
def runs (ty : Tys) (fn : FuncId → Option Func) (lib : Oracle) (n : Nat) (d : Nat) : Oracle := runsL ty fn lib Tabs.nought (fun _ _ _ _ => none) n d
end
end
end Go.Proofs.YtaamdiknefodgaaDoor.Am
