/- An abstract machine for the model's code: values without addresses, one order for every region. (No program in sight.) Types, out of the program. (No program in sight.) What the abstract machine's values and memory stand for. (No program in sight.) The abstract machine's operations without memory are the model's. (No program in sight.) One operation of the abstract machine, without memory. (No program in sight.) -/
import Derived.WalkKit
import Derived.Below
import Derived.Orders
import Derived.OrdersHeld
import Derived.ChangeKeysEq
import Derived.Laws.StructEq
import Derived.Laws.Shifts
/-! An abstract machine for the model's code: values without addresses, one order for every region. (No program in sight.) -/
namespace Go.Proofs.Ytbebbbclhgjcbaa.Am
noncomputable section

/-- a number: written out, or not -/
inductive N where
  | c (n : Int)
  | x (i : Nat)
/-- what one cell holds -/
inductive S where
  | bool (b : Bool)
  | int (k : IntKind) (n : Int)
  | str (s : List UInt8)
  | ptr (l o : Nat)
  | nilp
  | sl (l o n z : Nat) (c : Option Nat)
  | sle
  | nils
  | fn (f : FuncId) (cs : List (Nat × Nat))
  | nili
  | ifc
  /-- a number that is not written out -/
  | xi (k : IntKind) (i : Nat)
  /-- a string that is not written out in full: below 256 its bytes, from 256 on strings of their own -/
  | xs (l : List Nat)
  /-- a truth value that is not written out: one of these numbers is this -/
  | xe (l : List (Nat × Int))
  /-- .. all of these numbers are these, or not all -/
  | xa (l : List (Nat × Int)) (b : Bool)
  /-- an address in a row of n cells: the one with this number, which is not written out -/
  | px (l o n i : Nat)
  /-- a slice of the arguments: list number k -/
  | rv (k : Nat)
  /-- an address in it: of cell o of an element -/
  | pe (k : Nat) (i : N) (o : Nat)
  /-- anything of one cell -/
  | top
/-- a value of one type: one cell, or a struct's or array's cells -/
inductive A where
  | s (x : S)
  | g (l : List S)
/-- a slot: a value, or several results -/
inductive V where
  | a (x : A)
  | t (l : List A)
  /-- anything -/
  | any

abbrev V.s (x : S) : V := .a (.s x)
abbrev V.g (l : List S) : V := .a (.g l)
def undef : V := .t []
def A.cells (x : A) : List S := A.rec (fun x => [x]) (fun l => l) x
def vS (x : S) : Option V := some (.a (.s x))
def vA (x : A) : Option V := some (.a x)

/-- a block: its cells; whether it may be written -/
structure Blk where
  cells : List S
  own : Bool
abbrev Hp := List (Nat × Blk)
def Hp.get (h : Hp) : Nat → Option Blk := List.rec (fun _ => none) (fun p _ ih l => bif p.1 == l then some p.2 else ih l) h
def Hp.set (h : Hp) : Nat → Blk → Hp := List.rec (fun _ _ => []) (fun p t ih l c => bif p.1 == l then (p.1, c) :: t else p :: ih l c) h
def Hp.del (h : Hp) : Nat → Hp := List.rec (fun _ => []) (fun p _ ih l => bif p.1 == l then ih l else p :: ih l) h
structure Heap where
  m : Hp
  next : Nat
def Heap.get (h : Heap) (l : Nat) : Option Blk := Hp.get h.m l
def Heap.alloc (h : Heap) (cells : List S) : Heap := ⟨(h.next, ⟨cells, true⟩) :: h.m, h.next + 1⟩

/-- types, as far as the machine asks -/
inductive D where
  | one
  | int (k : IntKind)
  | str
  | ptr (e : TypeId)
  | sl (e : TypeId)
  | ifc
  | arr (n : Nat) (e : TypeId)
  | st (fs : List (Nat × TypeId))
  | other
structure Ty where
  d : D
  size : Nat
  bytes : Nat
  zero : List S
  cmp : Bool
def D.agg (d : D) : Bool := match d with | .arr .. | .st _ => true | _ => false
def Ty.mk' (t : Ty) (cs : List S) : Option A := bif t.d.agg then some (.g cs) else match cs with | [x] => some (.s x) | _ => none

section
variable {α β : Type}
def nth (l : List α) : Nat → Option α := List.rec (fun _ => none) (fun x _ ih n => Nat.rec (some x) (fun m _ => ih m) n) l
def upd (l : List α) : Nat → α → List α := List.rec (fun _ _ => []) (fun x t ih n y => Nat.rec (y :: t) (fun m _ => x :: ih m y) n) l
/-- the first n, if they are there -/
def taken (l : List α) : Nat → Option (List α) := List.rec (fun n => Nat.rec (some []) (fun _ _ => none) n) (fun x _ ih n => Nat.rec (some []) (fun m _ => Option.rec none (fun r => some (x :: r)) (ih m)) n) l
/-- n cells from o on, if they are there -/
def ext (l : List α) (o n : Nat) : Option (List α) := taken (l.drop o) n
/-- cells laid over the first ones -/
def over (l : List α) : List α → Option (List α) := List.rec (fun ys => List.rec (some []) (fun _ _ _ => none) ys) (fun x t ih ys => List.rec (some (x :: t)) (fun y ys _ => Option.rec none (fun r => some (y :: r)) (ih ys)) ys) l
/-- cells laid over those from o on, if they are there -/
def lay (l : List α) (o : Nat) (ys : List α) : Option (List α) := Option.rec none (fun r => some (l.take o ++ r)) (over (l.drop o) ys)
def rep (n : Nat) (l : List α) : List α := Nat.rec [] (fun _ r => l ++ r) n
def mapO (f : α → Option β) (l : List α) : Option (List β) := List.rec (some []) (fun x _ ih => Option.rec none (fun y => Option.rec none (fun r => some (y :: r)) ih) (f x)) l
def ob (x : Option α) (f : α → Option β) : Option β := Option.rec none f x
end

def ofValue : Value → Option A
  | .bool b => some (.s (.bool b))
  | .int k n => some (.s (.int k n))
  | .string s => some (.s (.str s.data.toList))
  | .pointer none => some (.s .nilp)
  | .slice none 0 0 => some (.s .nils)
  | .nilIface => some (.s .nili)
  | _ => none

/-- facts on numbers, in tables: one number is less than another (eq: the same) if a third one is 1; two numbers' sum; which number stands in a row of numbers, at a number; a row with another number laid there -/
structure XTab where
  lf : List (Nat × Nat × Nat)
  sm : List (Nat × Nat × Nat)
  ld : List (List S × Nat × Nat)
  sr : List (List S × Nat × Nat × List S)
  eq : List (Nat × Nat × Nat)
abbrev XTab.nought : XTab := ⟨[], [], [], [], []⟩
/-- what is known of numbers and strings that are not written out -/
class Know where
  /-- a number lies between these -/
  iv : List (Int × Int)
  /-- two numbers differ; one is less than the other -/
  ne : List (Nat × Nat)
  lt : List (Nat × Nat)
  /-- a string is at most that long -/
  mx : List Nat
  /-- two strings are the same, or not -/
  sq : List (List Nat × List Nat × Bool)
  /-- a string's length is a number -/
  ln : List (List Nat × Nat)
  /-- not all of these numbers are these -/
  cf : List (List (Nat × Int))
  /-- two numbers are the same if this one is 0 -/
  df : List (Nat × Nat × Nat)
  /-- two strings are the same if all of these numbers are these -/
  sx : List (List Nat × List Nat × List (Nat × Int))
  /-- a string from one number to another, or to its end, is this string -/
  ct : List (List Nat × N × Option N × List Nat)
  /-- a number less another one; a number and this -/
  sb : List (Nat × Nat × Nat)
  ad : List (Nat × Int × Nat)
  xt : XTab
abbrev Know.nought : Know := ⟨[], [], [], [], [], [], [], [], [], [], [], [], XTab.nought⟩
def N.eqv (a b : N) : Bool := match a, b with | .c m, .c n => decide (m = n) | .x i, .x j => Nat.beq i j | _, _ => false
def N.eqo (a b : Option N) : Bool := match a, b with | none, none => true | some a, some b => a.eqv b | _, _ => false
def find2 (i j : Nat) (l : List (Nat × Nat × Nat)) : Option Nat := List.rec none (fun p _ ih => bif Nat.beq p.1 i && Nat.beq p.2.1 j then some p.2.2 else ih) l
def findAd (i : Nat) (c : Int) (l : List (Nat × Int × Nat)) : Option Nat := List.rec none (fun p _ ih => bif Nat.beq p.1 i && decide (p.2.1 = c) then some p.2.2 else ih) l
def orO {α : Type} (x y : Option α) : Option α := Option.rec y some x
def hasPair (l : List (Nat × Nat)) (i j : Nat) : Bool := List.rec false (fun p _ ih => (Nat.beq p.1 i && Nat.beq p.2 j) || ih) l
def S.num (x : S) : Option (IntKind × N) := match x with | .int k n => some (k, .c n) | .xi k i => some (k, .x i) | _ => none
def S.txt (x : S) : Option (List Nat) := match x with | .str s => some (s.map UInt8.toNat) | .xs l => some l | _ => none
def sameX : List Nat → List Nat → Bool
  | [], [] => true
  | a :: r, b :: s => Nat.beq a b && sameX r s
  | _, _ => false
def sameE : List (Nat × Int) → List (Nat × Int) → Bool
  | [], [] => true
  | a :: r, b :: s => Nat.beq a.1 b.1 && decide (a.2 = b.2) && sameE r s
  | _, _ => false
def notO (x : Option Bool) : Option Bool := ob x fun b => some (!b)
section
variable [Know]
def N.iv (a : N) : Option (Int × Int) := match a with | .c n => some (n, n) | .x i => nth Know.iv i
def ltI (a b : N) : Option Bool := ob a.iv fun p => ob b.iv fun q => bif decide (p.2 < q.1) then some true else bif decide (q.2 ≤ p.1) then some false else none
def eqI (a b : N) : Option Bool := ob a.iv fun p => ob b.iv fun q => bif decide (p.2 < q.1) || decide (q.2 < p.1) then some false else bif decide (p = q) && decide (p.1 = p.2) then some true else none
def ltX (a b : N) : Option Bool :=
  match a, b with
  | .x i, .x j => bif Nat.beq i j then some false else bif hasPair Know.lt i j then some true else bif hasPair Know.lt j i then some false else ltI (.x i) (.x j)
  | a, b => ltI a b
def eqX (a b : N) : Option Bool :=
  match a, b with
  | .x i, .x j => bif Nat.beq i j then some true else bif hasPair Know.ne i j || hasPair Know.ne j i || hasPair Know.lt i j || hasPair Know.lt j i then some false else eqI (.x i) (.x j)
  | a, b => eqI a b
def cmpX (op : BinOp) (a b : N) : Option Bool :=
  match op with
  | .eql => eqX a b
  | .neq => notO (eqX a b)
  | .lss => ltX a b
  | .gtr => ltX b a
  | .leq => notO (ltX b a)
  | .geq => notO (ltX a b)
  | _ => none
/-- whether a number is this; whether one is -/
def eqC (i : Nat) (c : Int) : Option Bool := ob (nth Know.iv i) fun p => bif decide (c < p.1) || decide (p.2 < c) then some false else bif decide (p.1 = c) && decide (p.2 = c) then some true else none
def anyE : List (Nat × Int) → Option Bool := List.rec (some false) fun p _ ih => Option.rec (ob ih fun b => bif b then some true else none) (fun b => bif b then some true else ih) (eqC p.1 p.2)
/-- whether all of these numbers are these -/
def hasE (l : List (Nat × Int)) (p : Nat × Int) : Bool := List.rec false (fun q _ ih => (Nat.beq q.1 p.1 && decide (q.2 = p.2)) || ih) l
def allE : List (Nat × Int) → Option Bool := List.rec (some true) fun p _ ih => Option.rec (ob ih fun b => bif b then none else some false) (fun b => bif b then ih else some false) (eqC p.1 p.2)
def allK (l : List (Nat × Int)) : Option Bool := Option.rec (bif Know.cf.any (fun m => m.all (hasE l)) then some false else none) some (allE l)
def S.isBool (x : S) : Option Bool := match x with | .bool b => some b | .xe l => anyE l | .xa l b => ob (allK l) fun c => some (c == b) | _ => none
def num2 {α : Type} (x y : S) (f : N → N → Option α) : Option α := ob x.num fun p => ob y.num fun q => bif p.1 == q.1 then f p.2 q.2 else none
def symInt (op : BinOp) (x y : S) : Option S := num2 x y fun a b => ob (cmpX op a b) fun r => some (.bool r)
def findSq (a b : List Nat) : List (List Nat × List Nat × Bool) → Option Bool
  | [] => none
  | (p, q, r) :: t => bif (sameX p a && sameX q b) || (sameX p b && sameX q a) then some r else findSq a b t
def eqS (a b : List Nat) : Option Bool := bif sameX a b then some true else findSq a b Know.sq
def mxX : List Nat → Option Nat
  | [] => some 0
  | n :: r => ob (mxX r) fun m => bif Nat.blt n 256 then some (m + 1) else ob (nth Know.mx (n - 256)) fun k => some (m + k)
def findSx (a b : List Nat) : List (List Nat × List Nat × List (Nat × Int)) → Option (List (Nat × Int))
  | [] => none
  | (p, q, l) :: t => bif sameX p a && sameX q b then some l else findSx a b t
def findCt (l : List Nat) (a : N) (b : Option N) : List (List Nat × N × Option N × List Nat) → Option (List Nat)
  | [] => none
  | (p, c, e, m) :: t => bif sameX p l && c.eqv a && N.eqo e b then some m else findCt l a b t
def findLn (a : List Nat) : List (List Nat × Nat) → Option Nat
  | [] => none
  | (p, j) :: t => bif sameX p a then some j else findLn a t
end

/-- what a call comes to: the function, its arguments, the memory, the first block that may be written -/
abbrev Oracle := FuncId → List A → Heap → Nat → Option (V × Heap)
abbrev Tys := TypeId → Option Ty
abbrev Fr := List V
structure St where
  fr : Fr
  h : Heap
inductive X where
  | normal
  | exit (id : Nat)
  | ret
abbrev XS := Option (X × St)
/-- lists: which number is a list's length; which cells an element has -/
structure Tabs where
  len : List (Nat × Nat)
  el : List (Nat × N × List S)
  /-- a number and this are that number -/
  add : List (Nat × Int × Nat)
abbrev Tabs.nought : Tabs := ⟨[], [], []⟩
/-- what a loop comes to, by its number, and the first block that may be written -/
abbrev Loops := Nat → Nat → St → XS
structure Ctx where
  ty : Tys
  call : Oracle
  tb : Tabs
  loop : Loops

def ev (fr : Fr) (x : Operand) : Option V :=
  Operand.rec (fun t => nth fr t) (fun v => ob (ofValue v) vA) (fun _ => none) (fun f => vS (.fn f [])) x
def V.isA (v : V) : Option A := V.rec some (fun _ => none) none v
def A.isS (v : A) : Option S := A.rec some (fun _ => none) v
def S.isInt (x : S) : Option Int := match x with | .int _ n => some n | _ => none
def S.isPtr (x : S) : Option (Nat × Nat) := match x with | .ptr l o => some (l, o) | _ => none
def evA (fr : Fr) (x : Operand) : Option A := ob (ev fr x) V.isA
def evS (fr : Fr) (x : Operand) : Option S := ob (evA fr x) A.isS
def evInt (fr : Fr) (x : Operand) : Option Int := ob (evS fr x) S.isInt
def evPtr (fr : Fr) (x : Operand) : Option (Nat × Nat) := ob (evS fr x) S.isPtr

def maxStr : Nat := 1099511627776

def shl (k : IntKind) (a b : Int) : Option S := bif decide (b < 0) then none else some (.int k (k.wrap (a * 2 ^ min b.toNat k.bits)))
def shr (k : IntKind) (a b : Int) : Option S := bif decide (b < 0) then none else some (.int k (a.fdiv (2 ^ min b.toNat k.bits)))
def quo (k : IntKind) (a b : Int) : Option S := bif b == 0 then none else some (.int k (k.wrap (a.tdiv b)))
def rem (k : IntKind) (a b : Int) : Option S := bif b == 0 then none else some (.int k (a.tmod b))
def intOp (op : BinOp) (k : IntKind) (a b : Int) : Option S :=
  match op with
  | .add => some (.int k (k.wrap (a + b)))
  | .sub => some (.int k (k.wrap (a - b)))
  | .mul => some (.int k (k.wrap (a * b)))
  | .quo => quo k a b
  | .rem => rem k a b
  | .and => some (.int k (bits .and k a b))
  | .or => some (.int k (bits .or k a b))
  | .xor => some (.int k (bits .xor k a b))
  | .andNot => some (.int k (bits .andNot k a b))
  | .eql => some (.bool (a == b))
  | .neq => some (.bool (a != b))
  | .lss => some (.bool (a < b))
  | .leq => some (.bool (a ≤ b))
  | .gtr => some (.bool (a > b))
  | .geq => some (.bool (a ≥ b))
  | _ => none
section
variable [Know]
def catX (a b : List Nat) : Option S := ob (mxX (a ++ b)) fun m => bif Nat.ble m maxStr then some (.xs (a ++ b)) else none
def symStr (op : BinOp) (x y : S) : Option S := ob x.txt fun a => ob y.txt fun b => match op with
  | .add => catX a b
  | .eql => orO (ob (eqS a b) fun r => some (.bool r)) (ob (findSx a b Know.sx) fun l => some (.xa l true))
  | .neq => orO (ob (eqS a b) fun r => some (.bool (!r))) (ob (findSx a b Know.sx) fun l => some (.xa l false))
  | _ => none
/-- a comparison by the table: a truth value, written out if its number is known -/
def yesT (d : Nat) : S := Option.rec (.xe [(d, 1)]) (fun b => .bool b) (eqC d 1)
def notT (d : Nat) : S := Option.rec (.xa [(d, 1)] false) (fun b => .bool (!b)) (eqC d 1)
def lessT (k k' : IntKind) (i j : Nat) (f : Nat → S) : Option S := bif k == k' then ob (find2 i j Know.xt.lf) fun d => some (f d) else none
def sameT (k k' : IntKind) (i j : Nat) (f : Nat → S) : Option S := bif k == k' then ob (find2 i j Know.xt.eq) fun d => some (f d) else none
def cmpT (op : BinOp) (x y : S) : Option S := match op, x, y with
  | .lss, .xi k i, .xi k' j => lessT k k' i j yesT
  | .gtr, .xi k i, .xi k' j => lessT k k' j i yesT
  | .geq, .xi k i, .xi k' j => lessT k k' i j notT
  | .leq, .xi k i, .xi k' j => lessT k k' j i notT
  | .eql, .xi k i, .xi k' j => sameT k k' i j yesT
  | .neq, .xi k i, .xi k' j => sameT k k' i j notT
  | _, _, _ => none
def symK (op : BinOp) (x y : A) : Option S := match x, y with | .s x, .s y => orO (symInt op x y) (orO (symStr op x y) (cmpT op x y)) | _, _ => none
end
def intBin (op : BinOp) (k : IntKind) (a : Int) (k' : IntKind) (b : Int) : Option S :=
  match op with
  | .shl => shl k a b
  | .shr => shr k a b
  | op => bif k == k' then intOp op k a b else none
def cat (a b : List UInt8) : Option S := bif Nat.ble (a.length + b.length) maxStr then some (.str (a ++ b)) else none
def strBin (op : BinOp) (a b : List UInt8) : Option S :=
  match op with
  | .add => cat a b
  | .eql => some (.bool (a == b))
  | .neq => some (.bool (!(a == b)))
  | .lss => some (.bool (Op.bytesLess a b))
  | .geq => some (.bool (!(Op.bytesLess a b)))
  | .leq => some (.bool (Op.bytesLess a b || a == b))
  | .gtr => some (.bool (!(Op.bytesLess a b || a == b)))
  | _ => none

/-- what is told of ==: true or false, or: all of these numbers are these -/
inductive Q where
  | b (b : Bool)
  | c (l : List (Nat × Int))
def Q.and (p q : Q) : Q := match p, q with
  | .b true, q => q
  | .b false, _ => .b false
  | .c _, .b false => .b false
  | .c l, .b true => .c l
  | .c l, .c m => .c (l ++ m)
/-- == of two structs, of two arrays, over == of their parts -/
def eqNext (r : Option Q) (k : Option Q) : Option Q := ob r fun p => match p with | .b false => some (.b false) | p => ob k fun q => some (p.and q)
def eqFields (ty : Tys) (f : TypeId → List S → List S → Option Q) (xs ys : List S) : List (Nat × TypeId) → Option Q
  | [] => some (.b true)
  | (o, t) :: r => ob (ty t) fun T => ob (ext xs o T.size) fun x => ob (ext ys o T.size) fun y => eqNext (f t x y) (eqFields ty f xs ys r)
def eqElems (f : TypeId → List S → List S → Option Q) (e : TypeId) (z : Nat) (xs ys : List S) : Nat → Nat → Option Q
  | 0, _ => some (.b true)
  | n + 1, i => ob (ext xs (i * z) z) fun x => ob (ext ys (i * z) z) fun y => eqNext (f e x y) (eqElems f e z xs ys n (i + 1))
def eqInt0 (x y : S) : Option Bool := match x, y with | .int k a, .int k' b => bif k == k' then some (a == b) else none | _, _ => none
def eqInt [Know] (x y : S) : Option Bool := orO (eqInt0 x y) (num2 x y eqX)
def eqBool0 (x y : S) : Option Bool := match x, y with | .bool a, .bool b => some (a == b) | .xe l, .xe m => bif sameE l m then some true else none | .xa l b, .xa m c => bif sameE l m then some (b == c) else none | _, _ => none
def eqBool [Know] (x y : S) : Option Bool := orO (eqBool0 x y) (ob x.isBool fun a => ob y.isBool fun b => some (a == b))
def eqStr0 (x y : S) : Option Bool := match x, y with | .str a, .str b => some (a == b) | _, _ => none
def eqStr [Know] (x y : S) : Option Bool := orO (eqStr0 x y) (ob x.txt fun a => ob y.txt fun b => eqS a b)
/-- 0: nil; 1: not nil -/
def nilPtr (x : S) : Option Bool := match x with | .nilp => some true | .ptr _ _ => some false | _ => none
def nilSl (x : S) : Option Bool := match x with | .nils => some true | .sl .. => some false | .sle => some false | _ => none
def nilIf (x : S) : Option Bool := match x with | .nili => some true | .ifc => some false | _ => none
def eqNil (p q : Option Bool) : Option Bool := ob p fun p => ob q fun q => bif p || q then some (p && q) else none
def one1 {α : Type} (f : S → S → Option α) (xs ys : List S) : Option α := match xs, ys with | [x], [y] => f x y | _, _ => none
def atomQ (i : Nat) (c : Int) : Q := .c [(i, c)]
def eqIntQ [Know] (x y : S) : Option Q := match x, y with
  | .xi k i, .int k' c => bif k == k' then Option.rec (some (atomQ i c)) (fun b => some (.b b)) (eqC i c) else none
  | .int k' c, .xi k i => bif k == k' then Option.rec (some (atomQ i c)) (fun b => some (.b b)) (eqC i c) else none
  | .xi k i, .xi k' j => bif k == k' then orO (ob (eqX (.x i) (.x j)) fun b => some (.b b)) (ob (find2 i j Know.df) fun d => some (atomQ d 0)) else none
  | x, y => ob (eqInt x y) fun b => some (.b b)
def boolQ [Know] (l : List (Nat × Int)) (b : Bool) : Option Q := match l with
  | [(i, c)] => Option.rec (bif b then some (atomQ i c) else ob (nth Know.iv i) fun p => bif decide (p = (0, 1)) && decide (c = 1) then some (atomQ i 0) else none) (fun v => some (.b (v == b))) (eqC i c)
  | _ => none
def is01 [Know] (i : Nat) : Bool := Option.rec false (fun p => decide (p = ((0, 1) : Int × Int))) (nth Know.iv i)
def dfB [Know] (l m : List (Nat × Int)) : Option Q := match l, m with
  | [(i, c)], [(j, e)] => bif decide (c = 1) && decide (e = 1) && is01 i && is01 j then ob (find2 i j Know.df) fun d => some (atomQ d 0) else none
  | _, _ => none
def eqBoolQ [Know] (x y : S) : Option Q := match x, y with
  | .xe l, .bool b => orO (boolQ l b) (ob (eqBool x y) fun b => some (.b b))
  | .bool b, .xe l => orO (boolQ l b) (ob (eqBool x y) fun b => some (.b b))
  | .xe l, .xe m => orO (ob (eqBool x y) fun b => some (.b b)) (dfB l m)
  | x, y => ob (eqBool x y) fun b => some (.b b)
section
variable [Know]
/-- == of two values of a type -/
def eqD (ty : Tys) (f : TypeId → List S → List S → Option Q) (cmp : Bool) (d : D) (xs ys : List S) : Option Q :=
  match d with
  | .int _ => one1 eqIntQ xs ys
  | .one => one1 eqBoolQ xs ys
  | .str => ob (one1 eqStr xs ys) fun b => some (.b b)
  | .st fs => bif cmp then eqFields ty f xs ys fs else none
  | .arr n e => ob (ty e) fun E => eqElems f e E.size xs ys n 0
  | _ => none
def eqIn (ty : Tys) (n : Nat) : TypeId → List S → List S → Option Q :=
  Nat.rec (fun _ _ _ => none) (fun _ ih t xs ys => ob (ty t) fun T => eqD ty ih T.cmp T.d xs ys) n

/-- == of two cells that are no numbers and no strings; 'c': one of the two stands there as a constant -/
def eqCell (c : Bool) (d : D) (x y : S) : Option Bool :=
  match d with
  | .one => eqBool x y
  | .ptr _ => eqNil (nilPtr x) (nilPtr y)
  | .sl _ => eqNil (nilSl x) (nilSl y)
  | .ifc => bif c then eqNil (nilIf x) (nilIf y) else none
  | _ => none
/-- == and != of two values that are no numbers and no strings -/
def eqTop (ty : Tys) (c : Bool) (t : TypeId) (x y : A) : Option Q :=
  match x, y with
  | .s x, .s y => ob (ty t) fun T => ob (eqCell c T.d x y) fun b => some (.b b)
  | .g xs, .g ys => ob (ty t) fun T => bif T.cmp then eqIn ty 20 t xs ys else none
  | _, _ => none
def eqBin (ty : Tys) (c : Bool) (op : BinOp) (t : TypeId) (x y : A) : Option S :=
  match op with
  | .eql => ob (eqTop ty c t x y) fun q => some (match q with | .b b => .bool b | .c l => .xa l true)
  | .neq => ob (eqTop ty c t x y) fun q => some (match q with | .b b => .bool (!b) | .c l => .xa l false)
  | _ => none
inductive K where
  | int (k : IntKind) (n : Int)
  | str (s : List UInt8)
  | no
def S.k (x : S) : K := match x with | .int k n => .int k n | .str s => .str s | _ => .no
def A.k (x : A) : K := match x with | .s x => x.k | .g _ => .no
/-- an operator on two values -/
def binK (ty : Tys) (c : Bool) (op : BinOp) (t : TypeId) (x y : A) (p q : K) : Option S :=
  match p, q with
  | .int k a, .int k' b => intBin op k a k' b
  | .str a, .str b => strBin op a b
  | .no, .no => eqBin ty c op t x y
  | _, _ => none
def bin (ty : Tys) (c : Bool) (op : BinOp) (t : TypeId) (x y : A) : Option V := ob (orO (binK ty c op t x y x.k y.k) (symK op x y)) vS
def isConst (x : Operand) : Bool := match x with | .const _ => true | _ => false

def un (op : UnOp) (x : S) : Option V :=
  match op, x with
  | .neg, .int k n => vS (.int k (k.wrap (0 - n)))
  | .not, .xa l b => vS (.xa l (!b))
  | .not, x => ob x.isBool fun b => vS (.bool (!b))
  | _, _ => none

/-- an index: its number, if it is one -/
def idx (n : Int) (len : Nat) : Option Nat := Int.rec (fun i => bif Nat.blt i len then some i else none) (fun _ => none) n
/-- a bound: its number, if it is one -/
def bnd (n : Int) (len : Nat) : Option Nat := Int.rec (fun i => bif Nat.ble i len then some i else none) (fun _ => none) n

def oi (x : Option Int) (d : Int) : Int := Option.rec d (fun x => x) x
/-- lo, hi of what has a length and a greatest one -/
def bnds (len cap : Nat) (lo hi : Option Int) (k : Nat → Nat → Option S) : Option S :=
  ob (bnd (oi hi len) cap) fun h => ob (bnd (oi lo 0) h) fun l => k l h
def mkSl (l o z k h : Nat) (c : Option Nat) : Option S := bif h == k then some .sle else some (.sl l (o + k * z) (h - k) z c)
def cutStr (s : List UInt8) (lo hi : Option Int) : Option S := bnds s.length s.length lo hi fun l h => some (.str ((s.take h).drop l))
def cutSl (l o n z : Nat) (c : Option Nat) (lo hi : Option Int) : Option S :=
  Option.rec (bnds n n lo hi fun k h => mkSl l o z k h none) (fun c => bnds n c lo hi fun k h => mkSl l o z k h (some (c - k))) c
def cutSl3 (l o n z : Nat) (c : Option Nat) (lo hi : Option Int) (mx : Int) : Option S :=
  ob c fun c => ob (bnd mx c) fun m => ob hi fun h => bnds n m lo (some h) fun k h => mkSl l o z k h (some (m - k))
def cutAny (l o n z : Nat) (c : Option Nat) (lo hi mx : Option Int) : Option S :=
  Option.rec (cutSl l o n z c lo hi) (fun m => cutSl3 l o n z c lo hi m) mx
def cutNil (lo hi : Option Int) : Option S := bnds 0 0 lo hi fun _ _ => some .nils

def optInt (fr : Fr) (x : Option Operand) : Option (Option Int) := Option.rec (some none) (fun x => ob (evInt fr x) fun n => some (some n)) x

/-- the parts of a value written out, laid over its zero cells -/
def fill (place : Nat → Option (Nat × Nat)) (parts : List (Nat × A)) : List S → Option (List S) :=
  List.rec (fun cells => some cells) (fun p _ ih cells => ob (place p.1) fun q => bif p.2.cells.length == q.2 && Nat.ble (q.1 + q.2) cells.length then ob (lay cells q.1 p.2.cells) ih else none) parts
def evParts (fr : Fr) (ps : List (Nat × Operand)) : Option (List (Nat × A)) := mapO (fun p => ob (evA fr p.2) fun v => some (p.1, v)) ps

def maxI0 (x y : S) : Option S := match x, y with | .int k a, .int _ b => some (.int k (bif decide (b > a) then b else a)) | _, _ => none
def minI0 (x y : S) : Option S := match x, y with | .int k a, .int _ b => some (.int k (bif decide (b < a) then b else a)) | _, _ => none
def maxI (x y : S) : Option S := orO (maxI0 x y) (num2 x y fun a b => ob (ltX a b) fun l => some (bif l then y else x))
def minI (x y : S) : Option S := orO (minI0 x y) (num2 x y fun a b => ob (ltX b a) fun l => some (bif l then y else x))
def foldS (f : S → S → Option S) : S → List S → Option S
  | x, [] => some x
  | x, y :: r => ob (f x y) fun z => foldS f z r

/-- a struct's field -/
def fieldOf (ty : Tys) (s : TypeId) (f : Nat) : Option (Nat × Ty) :=
  ob (ty s) fun T => match T.d with
    | .st fs => ob (nth fs f) fun p => ob (ty p.2) fun F => some (p.1, F)
    | _ => none
/-- a slice's or array's element -/
def elemOf (ty : Tys) (t : TypeId) : Option Ty := ob (ty t) fun T => match T.d with | .sl e => ty e | _ => none
def arrOf (ty : Tys) (t : TypeId) : Option (Nat × Ty) := ob (ty t) fun T => match T.d with | .arr n e => ob (ty e) fun E => some (n, E) | _ => none

def pickOp (fr : Fr) (c a b : Operand) : Option V := ob (evS fr c) fun x => ob x.isBool fun t => bif t then ev fr a else ev fr b
def binOp' (ty : Tys) (fr : Fr) (op : BinOp) (t : TypeId) (x y : Operand) : Option V := ob (evA fr x) fun x' => ob (evA fr y) fun y' => bin ty (isConst x || isConst y) op t x' y'
def unOp' (fr : Fr) (op : UnOp) (x : Operand) : Option V := ob (evS fr x) (un op)
def convInt (d : D) (x : S) : Option V :=
  match d, x with
  | .int k, .int _ n => vS (.int k (k.wrap n))
  | .str, .str s => vS (.str s)
  | .int k, .xi _ i => ob (nth Know.iv i) fun p => bif decide (k.min ≤ p.1) && decide (p.2 ≤ k.max) then vS (.xi k i) else none
  | .str, .xs l => vS (.xs l)
  | _, _ => none
def convOp (ty : Tys) (fr : Fr) (src dst : TypeId) (x : Operand) : Option V := ob (ty src) fun _ => ob (ty dst) fun T => ob (evS fr x) fun x => convInt T.d x
def extractOp (fr : Fr) (t : Operand) (i : Nat) : Option V := ob (ev fr t) fun v => V.rec (fun _ => none) (fun l => ob (nth l i) vA) none v
def fieldAddrOp (ty : Tys) (fr : Fr) (s : TypeId) (x : Operand) (f : Nat) : Option V :=
  ob (evPtr fr x) fun p => ob (fieldOf ty s f) fun q => bif q.2.size == 0 then none else vS (.ptr p.1 (p.2 + q.1))
def aggOf (x : A) : Option (List S) := A.rec (fun _ => none) some x
def fieldOp (ty : Tys) (fr : Fr) (s : TypeId) (x : Operand) (f : Nat) : Option V :=
  ob (evA fr x) fun x => ob (aggOf x) fun cs => ob (fieldOf ty s f) fun q => ob (ext cs q.1 q.2.size) fun c => ob (q.2.mk' c) vA
def indexAddrS (ty : Tys) (t : TypeId) (i : Int) (x : S) : Option V :=
  match x with
  | .ptr l o => ob (arrOf ty t) fun q => ob (idx i q.1) fun i => vS (.ptr l (o + i * q.2.size))
  | .sl l o n z _ => ob (elemOf ty t) fun E => ob (idx i n) fun i => bif E.size == z then vS (.ptr l (o + i * z)) else none
  | _ => none
/-- .. whose index is not written out -/
def indexAddrX (ty : Tys) (t : TypeId) (i x : S) : Option V :=
  match i, x with
  | .xi _ i, .ptr l o => ob (arrOf ty t) fun q => ob (nth Know.iv i) fun p => bif q.2.size == 1 && decide (0 ≤ p.1) && decide (p.2 < q.1) then vS (.px l o q.1 i) else none
  | _, _ => none
def indexAddrI (ty : Tys) (t : TypeId) (i x : S) : Option V := orO (ob i.isInt fun i => indexAddrS ty t i x) (indexAddrX ty t i x)
def indexAddrOp (ty : Tys) (fr : Fr) (t : TypeId) (x i : Operand) : Option V := ob (evS fr x) fun x => ob (evS fr i) fun i => indexAddrI ty t i x
def indexStr (ty : Tys) (t : TypeId) (i : Int) (x : S) : Option V :=
  match x with
  | .str s => ob (ty t) fun T => match T.d with
    | .str => ob (idx i s.length) fun i => ob (nth s i) fun b => vS (.int .u8 b.toNat)
    | _ => none
  | _ => none
def indexArr (ty : Tys) (t : TypeId) (i : Int) (cs : List S) : Option V :=
  ob (arrOf ty t) fun q => ob (idx i q.1) fun i => ob (ext cs (i * q.2.size) q.2.size) fun c => ob (q.2.mk' c) vA
def indexOp (ty : Tys) (fr : Fr) (t : TypeId) (x i : Operand) : Option V :=
  ob (evA fr x) fun x => ob (evInt fr i) fun i => A.rec (fun x => indexStr ty t i x) (fun cs => indexArr ty t i cs) x
def isStrT (ty : Tys) (t : TypeId) : Bool := Option.rec false (fun T => match T.d with | .str => true | _ => false) (ty t)
def sliceS (ty : Tys) (t : TypeId) (lo hi mx : Option Int) (x : S) : Option S :=
  match x with
  | .ptr l o => ob (arrOf ty t) fun q => bif q.2.size == 0 then none else cutAny l o q.1 q.2.size (some q.1) lo hi mx
  | .str s => bif isStrT ty t then Option.rec (cutStr s lo hi) (fun _ => none) mx else none
  | .sl l o n z c => ob (elemOf ty t) fun E => bif E.size == z then cutAny l o n z c lo hi mx else none
  | .nils => ob (elemOf ty t) fun _ => Option.rec (cutNil lo hi) (fun _ => none) mx
  | _ => none
def sliceOp (ty : Tys) (fr : Fr) (t : TypeId) (x : Operand) (lo hi mx : Option Operand) : Option V :=
  ob (evS fr x) fun x => ob (optInt fr lo) fun lo => ob (optInt fr hi) fun hi => ob (optInt fr mx) fun mx => ob (sliceS ty t lo hi mx x) vS
def numO' (fr : Fr) (x : Option Operand) : Option (Option N) := Option.rec (some none) (fun x => ob (evS fr x) fun x => ob x.num fun p => some (some p.2)) x
def isNoneO {α : Type} (x : Option α) : Bool := Option.rec true (fun _ => false) x
/-- a string cut at numbers that are not written out -/
def cutK (ty : Tys) (fr : Fr) (t : TypeId) (x : Operand) (lo hi mx : Option Operand) : Option V :=
  bif isNoneO mx && isStrT ty t then ob (evS fr x) fun x => ob x.txt fun l => ob (numO' fr lo) fun a => ob (numO' fr hi) fun b => ob (findCt l (a.getD (.c 0)) b Know.ct) fun m => vS (.xs m) else none
def stPlace (ty : Tys) (p : Nat × TypeId) : Option (Nat × Nat) := ob (ty p.2) fun F => some (p.1, F.size)
def buildD (ty : Tys) (T : Ty) (ps : List (Nat × A)) : Option V :=
  match T.d with
  | .st fs => ob (mapO (stPlace ty) fs) fun pl => ob (fill (nth pl) ps T.zero) fun cs => vA (.g cs)
  | .arr _ e => ob (ty e) fun E => ob (fill (fun i => some (i * E.size, E.size)) ps T.zero) fun cs => vA (.g cs)
  | _ => none
def buildOp (ty : Tys) (fr : Fr) (t : TypeId) (ps : List (Nat × Operand)) : Option V := ob (ty t) fun T => ob (evParts fr ps) fun ps => buildD ty T ps
def makeFuncOp (fr : Fr) (fn : Fn) (first captured : List Operand) : Option V :=
  match fn, first with
  | .func f, [] => ob (mapO (evPtr fr) captured) fun cs => vS (.fn f cs)
  | _, _ => none
def nilCheckOp (fr : Fr) (x : Operand) : Option V := ob (evPtr fr x) fun p => vS (.ptr p.1 p.2)
def lenD (d : D) (x : A) : Option Nat :=
  match d with
  | .str => (match x with | .s (.str s) => some s.length | _ => none)
  | .sl _ => (match x with | .s (.sl _ _ n _ _) => some n | .s .sle => some 0 | .s .nils => some 0 | _ => none)
  | .arr n _ => some n
  | _ => none
def lenXs (d : D) (x : A) : Option V :=
  match d, x with
  | .str, .s (.xs l) => ob (findLn l Know.ln) fun j => vS (.xi .i64 j)
  | _, _ => none
def lenOp (ty : Tys) (fr : Fr) (ts : List TypeId) (xs : List Operand) : Option V :=
  match ts, xs with
  | t :: _, [x] => ob (ty t) fun T => ob (evA fr x) fun x => orO (ob (lenD T.d x) fun n => vS (.int .i64 n)) (lenXs T.d x)
  | _, _ => none
def foldOp (fr : Fr) (f : S → S → Option S) (xs : List Operand) : Option V :=
  ob (mapO (evS fr) xs) fun l => match l with | x :: r => ob (foldS f x r) vS | [] => none
def pureBuiltin (ty : Tys) (fr : Fr) (c : Call) (b : Builtin) : Option V :=
  match b with
  | .len => lenOp ty fr c.argTypes.toList c.args.toList
  | .max => foldOp fr maxI c.args.toList
  | .min => foldOp fr minI c.args.toList
  | _ => none

def Heap.read (h : Heap) (l o n : Nat) : Option (List S) := ob (h.get l) fun b => ext b.cells o n
/-- the cells of what is appended -/
def srcCells (h : Heap) (x : S) : Option (Nat × List S) :=
  match x with
  | .sl l o n z _ => ob (h.read l o (n * z)) fun c => some (n, c)
  | .sle => some (0, [])
  | .nils => some (0, [])
  | .str s => some (s.length, s.map fun b => .int .u8 b.toNat)
  | _ => none

abbrev R := Option (V × Heap)
def orR (r : R) (k : R) : R := Option.rec k some r
def load0 (ty : Tys) (fr : Fr) (h : Heap) (t : TypeId) (x : Operand) : R :=
  ob (ty t) fun T => ob (evPtr fr x) fun p => ob (h.read p.1 p.2 T.size) fun cs => ob (T.mk' cs) fun v => some (.a v, h)
/-- the same number -/
def eqNum (x y : S) : Bool := match x, y with | .int k a, .int k' b => k == k' && decide (a = b) | .xi k i, .xi k' j => k == k' && Nat.beq i j | _, _ => false
def eqNums : List S → List S → Bool
  | [], [] => true
  | a :: r, b :: s => eqNum a b && eqNums r s
  | _, _ => false
def findLd (cs : List S) (i : Nat) (l : List (List S × Nat × Nat)) : Option Nat := List.rec none (fun p _ ih => bif Nat.beq p.2.1 i && eqNums p.1 cs then some p.2.2 else ih) l
def findSr (cs : List S) (i m : Nat) (l : List (List S × Nat × Nat × List S)) : Option (List S) := List.rec none (fun p _ ih => bif Nat.beq p.2.1 i && Nat.beq p.2.2.1 m && eqNums p.1 cs then some p.2.2.2 else ih) l
/-- what stands where a number that is not written out says -/
def loadX [Know] (ty : Tys) (fr : Fr) (h : Heap) (t : TypeId) (x : Operand) : R :=
  ob (ty t) fun T => ob (evS fr x) fun x => match x with
    | .px l o n i => bif T.size == 1 && !T.d.agg then ob (h.read l o n) fun cs => ob (findLd cs i Know.xt.ld) fun m => some (.a (.s (.xi .i64 m)), h) else none
    | _ => none
def loadOp [Know] (ty : Tys) (fr : Fr) (h : Heap) (t : TypeId) (x : Operand) : R := orR (load0 ty fr h t x) (loadX ty fr h t x)
def newAt (h : Heap) (cs : List S) : R := some (.a (.s (.ptr h.next 0)), h.alloc cs)
def allocOp (ty : Tys) (h : Heap) (t : TypeId) : R := ob (ty t) fun T => newAt h T.zero
def boxOp (fr : Fr) (h : Heap) (x : Operand) : R := ob (evA fr x) fun v => newAt h v.cells
def newSl (h : Heap) (n z : Nat) (c : Option Nat) (cs : List S) : R := some (.a (.s (.sl h.next 0 n z c)), h.alloc cs)
def okE (E : Ty) : Bool := Nat.ble E.bytes 65536 && (!(E.size == 0)) && E.zero.length == E.size
def buildSliceOp (ty : Tys) (fr : Fr) (h : Heap) (t : TypeId) (len : Nat) (ps : List (Nat × Operand)) : R :=
  ob (elemOf ty t) fun E => ob (evParts fr ps) fun ps =>
    bif okE E && Nat.ble (len * E.size) 65536 then ob (fill (fun i => some (i * E.size, E.size)) ps (rep len E.zero)) (newSl h len E.size (some len)) else none
def natOf (n : Int) : Option Nat := Int.rec some (fun _ => none) n
def makeSliceOp (ty : Tys) (fr : Fr) (h : Heap) (t : TypeId) (len cap : Operand) : R :=
  ob (elemOf ty t) fun E => ob (evInt fr len) fun n => ob (natOf n) fun n => ob (evInt fr cap) fun c => ob (natOf c) fun c =>
    bif okE E && Nat.ble n c && Nat.ble c 65536 then newSl h n E.size (some c) (rep c E.zero) else none
def u8T (ty : Tys) (t : TypeId) : Bool := Option.rec false (fun E => match E.d with | .int .u8 => E.size == 1 | _ => false) (elemOf ty t)
def u8S (x : S) : Option UInt8 := match x with | .int .u8 n => some (UInt8.ofNat n.toNat) | _ => none
def strOf (h : Heap) (x : S) : R :=
  match x with
  | .nils => some (.a (.s (.str [])), h)
  | .sle => some (.a (.s (.str [])), h)
  | .sl l o n z _ => bif z == 1 then ob (h.read l o n) fun cs => ob (mapO u8S cs) fun bs => some (.a (.s (.str bs)), h) else none
  | _ => none
/-- (not done: such a row bears a mark behind its end) -/
def bytesOf (_ : Heap) (_ : S) : R := none
def convQ (ty : Tys) (fr : Fr) (h : Heap) (src dst : TypeId) (x : Operand) : R :=
  ob (evS fr x) fun x =>
    bif isStrT ty dst && u8T ty src then strOf h x else bif isStrT ty src && u8T ty dst then bytesOf h x else none
def okApp (E : Ty) (k : Nat) (cs : List S) : Bool := okE E && Nat.ble k 65536 && cs.length == k * E.size
/-- append that makes a new row, or adds nothing -/
def appQ (h : Heap) (E : Ty) (k : Nat) (cs : List S) (s : S) : R :=
  match s with
  | .nils => bif k == 0 then some (.a (.s .nils), h) else newSl h k E.size none cs
  | .sl l o n z (some q) => bif z == E.size && Nat.ble n 65536 then
      (bif k == 0 then some (.a (.s (.sl l o n z (some q))), h) else bif Nat.ble (n + k) q then none else
        ob (h.read l o (n * z)) fun old => newSl h (n + k) z none (old ++ cs)) else none
  | .sl l o n z none => bif z == E.size && Nat.ble n 65536 && k == 0 then some (.a (.s (.sl l o n z none)), h) else none
  | _ => none
/-- append that may write behind what is there -/
def appW (h : Heap) (fl : Nat) (k : Nat) (cs : List S) (s : S) : R :=
  match s with
  | .sl l o n z (some c) => bif Nat.ble n 65536 && Nat.ble (n + k) c && Nat.ble fl l then
      ob (h.get l) fun b => bif b.own then ob (lay b.cells (o + n * z) cs) fun cs' => some (.a (.s (.sl l o (n + k) z (some c))), ⟨Hp.set h.m l ⟨cs', true⟩, h.next⟩) else none else none
  | .sl l o n z none => bif Nat.ble n 65536 && Nat.ble fl l && o == 0 then
      ob (h.get l) fun b => bif b.own && Nat.ble (n * z) b.cells.length then
        some (.a (.s (.sl h.next 0 (n + k) z none)), ⟨(h.next, ⟨b.cells.take (n * z) ++ cs, true⟩) :: Hp.del h.m l, h.next + 1⟩) else none else none
  | _ => none
def szS (s : S) : Nat := match s with | .sl _ _ _ z _ => z | _ => 0
def isSeq (ty : Tys) (t : TypeId) : Bool := Option.rec false (fun T => match T.d with | .str => true | .sl _ => true | _ => false) (ty t)
def appOp (ty : Tys) (fr : Fr) (h : Heap) (ts : List TypeId) (xs : List Operand) (k : Ty → Nat → List S → S → R) : R :=
  match ts, xs with
  | [t, u], [s, x] => bif isSeq ty u then ob (elemOf ty t) fun E => ob (evS fr s) fun s => ob (evS fr x) fun x => ob (srcCells h x) fun p => bif okApp E p.1 p.2 then k E p.1 p.2 s else none else none
  | _, _ => none
def appQOp (ty : Tys) (fr : Fr) (h : Heap) (c : Call) : R := appOp ty fr h c.argTypes.toList c.args.toList (fun E k cs s => appQ h E k cs s)
def appWOp (ty : Tys) (fr : Fr) (h : Heap) (fl : Nat) (c : Call) : R := appOp ty fr h c.argTypes.toList c.args.toList (fun E k cs s => bif szS s == E.size then appW h fl k cs s else none)
/-- a truth value 'true' laid where a number that is not written out says -/
def addE (i : Nat) : Nat → List S → Option (List S)
  | _, [] => some []
  | j, x :: r => ob (match x with | .bool true => some (.bool true) | .bool false => some (.xe [(i, (j : Int))]) | .xe l => some (.xe ((i, (j : Int)) :: l)) | _ => none) fun y => ob (addE i (j + 1) r) fun r => some (y :: r)
/-- the cells with this one laid there -/
def storeL [Know] (i : Nat) (v : S) (cs : List S) : Option (List S) := match v with
  | .bool true => addE i 0 cs
  | .xi .i64 m => findSr cs i m Know.xt.sr
  | _ => none
def storeX [Know] (ty : Tys) (h : Heap) (fl : Nat) (t : TypeId) (x v : S) : R :=
  match x with
  | .px l o n i => ob (ty t) fun T => bif T.size == 1 && Nat.ble fl l then
      ob (h.get l) fun b => bif b.own then ob (ext b.cells o n) fun cs => ob (storeL i v cs) fun cs => ob (lay b.cells o cs) fun cs => some (undef, ⟨Hp.set h.m l ⟨cs, true⟩, h.next⟩) else none else none
  | _ => none
def storeXOp [Know] (ty : Tys) (fr : Fr) (h : Heap) (fl : Nat) (t : TypeId) (x v : Operand) : R := ob (evS fr x) fun x => ob (evS fr v) fun v => storeX ty h fl t x v
def storeOp (ty : Tys) (fr : Fr) (h : Heap) (fl : Nat) (t : TypeId) (x v : Operand) : R :=
  ob (ty t) fun T => ob (evPtr fr x) fun p => ob (evA fr v) fun v =>
    bif v.cells.length == T.size && Nat.ble fl p.1 then
      ob (h.get p.1) fun b => bif b.own then ob (lay b.cells p.2 v.cells) fun cs => some (undef, ⟨Hp.set h.m p.1 ⟨cs, true⟩, h.next⟩) else none else none
/-- clear of a slice -/
def clearS (h : Heap) (fl : Nat) (E : Ty) (s : S) : R :=
  match s with
  | .nils => some (undef, h)
  | .sle => some (undef, h)
  | .sl l o n z _ => bif n == 0 then some (undef, h) else bif z == E.size && okE E && Nat.ble fl l then
      ob (h.get l) fun b => bif b.own then ob (lay b.cells o (rep n E.zero)) fun cs => some (undef, ⟨Hp.set h.m l ⟨cs, true⟩, h.next⟩) else none else none
  | _ => none
def clearOp (ty : Tys) (fr : Fr) (h : Heap) (fl : Nat) (ts : List TypeId) (xs : List Operand) : R :=
  match ts, xs with
  | [t], [x] => ob (elemOf ty t) fun E => ob (evS fr x) fun s => clearS h fl E s
  | _, _ => none
/-- a call of a Go function -/
def callOp (C : Ctx) (fr : Fr) (h : Heap) (fl : Nat) (f : Operand) (as : List Operand) : R :=
  ob (evS fr f) fun f => ob (mapO (evA fr) as) fun as => match f with
    | .fn f cs => C.call f (as ++ cs.map fun p => .s (.ptr p.1 p.2)) h fl
    | _ => none

/-! lists of the arguments -/
def Tabs.lenOf (T : Tabs) (k : Nat) : Option Nat := List.rec Option.none (fun p _ ih => bif Nat.beq p.1 k then some p.2 else ih) T.len
def Tabs.elOf (T : Tabs) (k : Nat) (i : N) : Option (List S) := List.rec Option.none (fun p _ ih => bif Nat.beq p.1 k && p.2.1.eqv i then some p.2.2 else ih) T.el
def Tabs.addOf (T : Tabs) (i : Nat) (c : Int) : Option Nat := List.rec Option.none (fun p _ ih => bif Nat.beq p.1 i && decide (p.2.1 = c) then some p.2.2 else ih) T.add
/-- sums and differences of numbers that are not written out -/
def sumS (op : BinOp) (x y : S) : Option Nat := match op, x, y with
  | .sub, .xi .i64 i, .xi .i64 j => find2 i j Know.sb
  | .add, .xi .i64 i, .int .i64 c => findAd i c Know.ad
  | .add, .int .i64 c, .xi .i64 i => findAd i c Know.ad
  | .add, .xi .i64 i, .xi .i64 j => find2 i j Know.xt.sm
  | _, _, _ => none
def sumK (fr : Fr) (op : BinOp) (x y : Operand) : Option V := ob (evS fr x) fun x => ob (evS fr y) fun y => ob (sumS op x y) fun k => vS (.xi .i64 k)
def addL (T : Tabs) (fr : Fr) (op : BinOp) (x y : Operand) : Option V :=
  match op with
  | .add => ob (evS fr x) fun x => ob (evS fr y) fun y => (match x, y with | .xi .i64 i, .int .i64 c => ob (T.addOf i c) fun j => vS (.xi .i64 j) | _, _ => none)
  | _ => none
def S.isRv (x : S) : Option Nat := match x with | .rv k => some k | _ => none
def S.isPe (x : S) : Option (Nat × N × Nat) := match x with | .pe k i o => some (k, i, o) | _ => none
def lenL (T : Tabs) (ty : Tys) (fr : Fr) (ts : List TypeId) (xs : List Operand) : Option V :=
  match ts, xs with
  | t :: _, [x] => ob (elemOf ty t) fun _ => ob (evS fr x) fun x => ob x.isRv fun k => ob (T.lenOf k) fun j => vS (.xi .i64 j)
  | _, _ => none
def indexL (T : Tabs) (ty : Tys) (fr : Fr) (t : TypeId) (x i : Operand) : Option V :=
  ob (evS fr x) fun x => ob x.isRv fun k => ob (evS fr i) fun i => ob i.num fun n => ob (T.elOf k n.2) fun cs => ob (elemOf ty t) fun E => bif Nat.beq E.size cs.length then vS (.pe k n.2 0) else none
def fieldL (ty : Tys) (fr : Fr) (s : TypeId) (x : Operand) (f : Nat) : Option V :=
  ob (evS fr x) fun x => ob x.isPe fun p => ob (fieldOf ty s f) fun q => bif q.2.size == 0 then none else vS (.pe p.1 p.2.1 (p.2.2 + q.1))
def loadL (T : Tabs) (ty : Tys) (fr : Fr) (t : TypeId) (x : Operand) : Option V :=
  ob (evS fr x) fun x => ob x.isPe fun p => ob (T.elOf p.1 p.2.1) fun cs => ob (ty t) fun U => ob (ext cs p.2.2 U.size) fun c => ob (U.mk' c) vA

/-- how an operation is done: without memory; reading or making memory; writing -/
inductive How where
  | p (r : Option V)
  | q (r : R)
  | w (r : R)
  | qw (r : R) (r' : R)
  | c (f : Operand) (as : List Operand)
def howBuiltin (C : Ctx) (fr : Fr) (h : Heap) (hw : Heap) (fl : Nat) (c : Call) (b : Builtin) : How :=
  match b with
  | .append => .qw (appQOp C.ty fr h c) (appWOp C.ty fr hw fl c)
  | .clear => .w (clearOp C.ty fr hw fl c.argTypes.toList c.args.toList)
  | .len => .p (orO (pureBuiltin C.ty fr c .len) (lenL C.tb C.ty fr c.argTypes.toList c.args.toList))
  | b => .p (pureBuiltin C.ty fr c b)
def howCall (C : Ctx) (fr : Fr) (h : Heap) (hw : Heap) (fl : Nat) (c : Call) (k : Callee) : How :=
  match k with
  | .value f => .c f c.args.toList
  | .builtin b => howBuiltin C fr h hw fl c b
  | .invoke .. => .p none
def howConv (C : Ctx) (fr : Fr) (h : Heap) (src dst : TypeId) (x : Operand) : How :=
  match convOp C.ty fr src dst x with
  | some v => .p (some v)
  | none => .q (convQ C.ty fr h src dst x)
def howLoad (C : Ctx) (fr : Fr) (h : Heap) (t : TypeId) (x : Operand) : How :=
  match loadL C.tb C.ty fr t x with
  | some v => .p (some v)
  | none => .q (loadOp C.ty fr h t x)
/-- 'h' is the memory for what does not write, 'hw' for what writes -/
def how (C : Ctx) (fr : Fr) (h hw : Heap) (fl : Nat) (o : Op) : How :=
  match o with
  | .move x => .p (ev fr x)
  | .assign x => .p (ev fr x)
  | .pick c a b => .p (pickOp fr c a b)
  | .binOp op t x y _ => .p (orO (binOp' C.ty fr op t x y) (orO (addL C.tb fr op x y) (sumK fr op x y)))
  | .unOp op _ x => .p (unOp' fr op x)
  | .convert src dst x => howConv C fr h src dst x
  | .extract t i => .p (extractOp fr t i)
  | .fieldAddr s x f => .p (orO (fieldAddrOp C.ty fr s x f) (fieldL C.ty fr s x f))
  | .field s x f => .p (fieldOp C.ty fr s x f)
  | .indexAddr t x i => .p (orO (indexAddrOp C.ty fr t x i) (indexL C.tb C.ty fr t x i))
  | .index t x i => .p (indexOp C.ty fr t x i)
  | .slice t x lo hi mx => .p (orO (sliceOp C.ty fr t x lo hi mx) (cutK C.ty fr t x lo hi mx))
  | .build t ps => .p (buildOp C.ty fr t ps.toList)
  | .makeFunc fn first captured => .p (makeFuncOp fr fn first.toList captured.toList)
  | .nilCheck x => .p (nilCheckOp fr x)
  | .call c => howCall C fr h hw fl c c.callee
  | .load t x => howLoad C fr h t x
  | .alloc t => .q (allocOp C.ty h t)
  | .box _ x => .q (boxOp fr h x)
  | .buildSlice t len ps => .q (buildSliceOp C.ty fr h t len ps.toList)
  | .makeSlice t len cap => .q (makeSliceOp C.ty fr h t len cap)
  | .store t x v => .w (orR (storeOp C.ty fr hw fl t x v) (storeXOp C.ty fr hw fl t x v))
  | _ => .p none

def noPtr (x : A) : Bool := x.cells.all fun s => match s with | .ptr .. => false | .fn .. => false | .px .. => false | _ => true
/-- a call, first as one that writes nothing that was there -/
def callQ (C : Ctx) (fr : Fr) (h : Heap) (fl : Nat) (f : Operand) (as : List Operand) : R :=
  ob (mapO (evA fr) as) fun vs => bif vs.all noPtr && Nat.ble fl h.next then orR (callOp C fr h h.next f as) (callOp C fr h fl f as) else callOp C fr h fl f as
/-- one operation, in order -/
def runHow (C : Ctx) (fr : Fr) (h : Heap) (fl : Nat) (w : How) : R :=
  match w with
  | .p r => ob r fun v => some (v, h)
  | .q r => r
  | .w r => r
  | .qw r r' => orR r r'
  | .c f as => callQ C fr h fl f as
def opr (C : Ctx) (fr : Fr) (h : Heap) (fl : Nat) (o : Op) : R := runHow C fr h fl (how C fr h h fl o)

def putV (fr : Fr) (d : Option Tmp) (v : V) : Fr := Option.rec fr (fun d => upd fr d v) d
def boolV (v : V) : Option Bool := ob v.isA fun x => ob x.isS S.isBool
def yieldedV (ops : List Oper) (fr : Fr) (j : Nat) : Option Bool := ob (nth ops j) fun o => ob o.dst fun d => ob (nth fr d) boolV
/-- what guards an operation is written out -/
def darkV (v : V) : Bool := match v with | .a (.s (.xe l)) => Option.rec true (fun _ => false) (anyE l) | .a (.s (.xa l _)) => Option.rec true (fun _ => false) (allK l) | .any => true | .a (.s .top) => true | _ => false
def guardOk (ops : List Oper) (o : Oper) (fr : Fr) : Bool :=
  Option.rec true (fun g => Option.rec true (fun q => Option.rec true (fun d => Option.rec true (fun v => !(darkV v)) (nth fr d)) q.dst) (nth ops g.1)) o.guard
def wantedV (ops : List Oper) (o : Oper) (fr : Fr) : Bool :=
  Option.rec true (fun g => Option.rec false (fun b => b == g.2) (yieldedV ops fr g.1)) o.guard

/-- a region whose order is the text's -/
def listR (C : Ctx) (fl : Nat) (ops : List Oper) (l : List Oper) : St → Option St :=
  List.rec (fun s => some s) (fun o _ ih s =>
    bif guardOk ops o s.fr then
      bif wantedV ops o s.fr then ob (opr C s.fr s.h fl o.op) fun r => ih ⟨putV s.fr o.dst r.1, r.2⟩
      else ih ⟨putV s.fr o.dst undef, s.h⟩
    else none) l

/-- a region whose order is drawn: the operations come in any order that the edges allow -/
structure RS where
  fr : Fr
  hb : Hp
  ds : List Hp
  an : List Nat
  cl : List Nat
  os : List Oper
  nx : Nat
def maskOf (an : List Nat) (o : Oper) : Nat :=
  o.after.toList.foldl (fun s e => bif Region.binds .any e then Nat.lor (Nat.lor s (Nat.shiftLeft 1 e.on)) ((nth an e.on).getD 0) else s) 0
def edgesOk (i : Nat) (o : Oper) : Bool := o.after.toList.all fun e => !Region.binds .any e || Nat.blt e.on i
def selD (m : Nat) : Nat → List Hp → Hp
  | _, [] => []
  | i, d :: r => bif Nat.testBit m i then d ++ selD m (i + 1) r else selD m (i + 1) r
def lookV (ops : List Oper) (o : Oper) : List Tmp :=
  (o.op.operands.toList.filterMap fun | .tmp t => some t | _ => none) ++
    (match o.guard with | some (j, _) => (match nth ops j with | some g => (match g.dst with | some d => [d] | none => []) | none => []) | none => [])
def apartV (ops : List Oper) (x y : Oper) : Bool :=
  (match x.dst with | some d => (lookV ops y).all (fun t => !(t == d)) && (match y.dst with | some e => !(d == e) | none => true) | none => true) &&
  (match y.dst with | some d => (lookV ops x).all (fun t => !(t == d)) | none => true)
/-- every operation before comes before by the edges, or has nothing to do with this one -/
def pairsOk (ops : List Oper) (o : Oper) (c m : Nat) : Nat → List Oper → List Nat → Bool
  | i, x :: xs, k :: ks => (Nat.testBit m i || (apartV ops x o && !(c == 2 && !(k == 0)) && !(k == 2 && !(c == 0)))) && pairsOk ops o c m (i + 1) xs ks
  | _, _, _ => true
def newD (n : Nat) (m : Hp) : Hp := m.filter fun p => Nat.ble n p.1

def endP (ops : List Oper) (s : RS) (o : Oper) (m : Nat) (v : V) : Option RS :=
  bif pairsOk ops o 0 m 0 s.os s.cl then some ⟨putV s.fr o.dst v, s.hb, s.ds ++ [[]], s.an ++ [m], s.cl ++ [0], s.os ++ [o], s.nx⟩ else none
def endQ (ops : List Oper) (s : RS) (o : Oper) (m : Nat) (r : V × Heap) : Option RS :=
  bif pairsOk ops o 1 m 0 s.os s.cl && Nat.ble s.nx r.2.next then some ⟨putV s.fr o.dst r.1, s.hb, s.ds ++ [newD s.nx r.2.m], s.an ++ [m], s.cl ++ [1], s.os ++ [o], r.2.next⟩ else none
def endW (ops : List Oper) (s : RS) (o : Oper) (m : Nat) (r : V × Heap) : Option RS :=
  bif pairsOk ops o 2 m 0 s.os s.cl && Nat.ble s.nx r.2.next then some ⟨putV s.fr o.dst r.1, r.2.m, (s.ds ++ [[]]).map (fun _ => []), s.an ++ [m], s.cl ++ [2], s.os ++ [o], r.2.next⟩ else none
def runD (C : Ctx) (fl : Nat) (ops : List Oper) (s : RS) (o : Oper) (m : Nat) (hq hw : Heap) (w : How) : Option RS :=
  match w with
  | .p r => ob r (endP ops s o m)
  | .q r => ob r (endQ ops s o m)
  | .w r => ob r (endW ops s o m)
  | .qw r r' => Option.rec (ob r' (endW ops s o m)) (endQ ops s o m) r
  | .c f as => Option.rec (ob (callOp C s.fr hw fl f as) (endW ops s o m)) (endQ ops s o m) (callOp C s.fr hq s.nx f as)
def stepD (C : Ctx) (fl : Nat) (ops : List Oper) (s : RS) (o : Oper) (m : Nat) : Option RS :=
  bif edgesOk s.os.length o && guardOk ops o s.fr then
    (bif wantedV ops o s.fr then
      runD C fl ops s o m ⟨selD m 0 s.ds ++ s.hb, s.nx⟩ ⟨s.ds.flatten ++ s.hb, s.nx⟩ (how C s.fr ⟨selD m 0 s.ds ++ s.hb, s.nx⟩ ⟨s.ds.flatten ++ s.hb, s.nx⟩ fl o.op)
    else endP ops s o m undef)
  else none
def anyR (C : Ctx) (fl : Nat) (ops : List Oper) (l : List Oper) : RS → Option RS :=
  List.rec (fun s => some s) (fun o _ ih s => ob (stepD C fl ops s o (maskOf s.an o)) ih) l

/-! loads from memory that stays as it was while the region runs: they may come at any time -/
structure Fs where
  rs : RS
  ls : List Nat
  ts : List Nat
/-- the block that an operation writes -/
def tgtOf (fr : Fr) (o : Oper) : Option Nat := match o.op with
  | .store _ x _ => ob (evS fr x) fun s => (match s with | .ptr l _ => some l | .px l _ _ _ => some l | _ => none)
  | .call c => (match c.callee, c.args.toList with
    | .builtin .append, s :: _ => ob (evS fr s) fun s => (match s with | .sl l _ _ _ _ => some l | _ => none)
    | _, _ => none)
  | _ => none
def freeLoad (C : Ctx) (fr : Fr) (h0 : Heap) (o : Oper) : Option (Nat × V) := match o.op with
  | .load t x => ob (C.ty t) fun T => ob (evPtr fr x) fun p => ob (h0.read p.1 p.2 T.size) fun cs => ob (T.mk' cs) fun v => some (p.1, .a v)
  | _ => none
def masksOf (ops : List Oper) : List Nat := ops.foldl (fun an o => an ++ [maskOf an o]) []
def isW (o : Oper) : Bool := match o.op with | .store .. => true | .call _ => true | _ => false
/-- something that may write has no order with it -/
def looseAt (an : List Nat) (i : Nat) : Nat → List Oper → Bool
  | _, [] => false
  | j, o :: r => (isW o && !(Nat.beq j i) && !(bif Nat.blt i j then Nat.testBit ((nth an j).getD 0) i else Nat.testBit ((nth an i).getD 0) j)) || looseAt an i (j + 1) r
def looseL (C : Ctx) (fr : Fr) (h0 : Heap) (o : Oper) (b : Bool) : Option (Nat × V) := bif b then freeLoad C fr h0 o else none
def lastK (cl : List Nat) : Nat := cl.foldl (fun _ k => k) 0
def stepF (C : Ctx) (fl : Nat) (ops : List Oper) (an : List Nat) (h0 : Heap) (s : Fs) (o : Oper) (m : Nat) : Option Fs :=
  bif edgesOk s.rs.os.length o && guardOk ops o s.rs.fr then
    (bif wantedV ops o s.rs.fr then
      Option.rec (ob (stepD C fl ops s.rs o m) fun r => bif lastK r.cl == 2 then ob (tgtOf s.rs.fr o) fun t => some ⟨r, s.ls, t :: s.ts⟩ else some ⟨r, s.ls, s.ts⟩)
        (fun p => ob (endP ops s.rs o m p.2) fun r => some ⟨r, p.1 :: s.ls, s.ts⟩) (looseL C s.rs.fr h0 o (looseAt an s.rs.os.length 0 ops))
    else ob (stepD C fl ops s.rs o m) fun r => some ⟨r, s.ls, s.ts⟩)
  else none
def freeR (C : Ctx) (fl : Nat) (ops : List Oper) (an : List Nat) (h0 : Heap) (l : List Oper) : Fs → Option Fs :=
  List.rec (fun s => some s) (fun o _ ih s => ob (stepF C fl ops an h0 s o (maskOf s.rs.an o)) ih) l
def drawF (C : Ctx) (fl : Nat) (ops : List Oper) (s : St) : Option St :=
  ob (freeR C fl ops (masksOf ops) s.h ops ⟨⟨s.fr, s.h.m, [], [], [], [], s.h.next⟩, [], []⟩) fun r =>
    bif r.ls.all (fun l => r.ts.all fun t => !(t == l)) then some ⟨r.rs.fr, ⟨r.rs.ds.flatten ++ r.rs.hb, r.rs.nx⟩⟩ else none
def drawR (C : Ctx) (fl : Nat) (ops : List Oper) (s : St) : Option St :=
  ob (anyR C fl ops ops ⟨s.fr, s.h.m, [], [], [], [], s.h.next⟩) fun r => some ⟨r.fr, ⟨r.ds.flatten ++ r.hb, r.nx⟩⟩
def orS (r : Option St) (k : Option St) : Option St := Option.rec k some r
def region (C : Ctx) (fl : Nat) (ops : List Oper) (draw : Bool) (s : St) : Option St :=
  bif draw then orS (drawR C fl ops s) (drawF C fl ops s) else listR C fl ops ops s

def nrm (s : St) : XS := some (.normal, s)
/-- go on if it ended normally -/
def thenX (r : XS) (k : St → XS) : XS := Option.rec none (fun p => X.rec (k p.2) (fun id => some (.exit id, p.2)) (some (.ret, p.2)) p.1) r
def blockX (id : Nat) (r : XS) : XS := Option.rec none (fun p => X.rec (nrm p.2) (fun j => bif j == id then nrm p.2 else some (.exit j, p.2)) (some (.ret, p.2)) p.1) r
def rounds (f : St → XS) (n : Nat) : St → XS := Nat.rec (fun _ => none) (fun _ ih s => thenX (f s) ih) n
def condX (c : Option S) (a b : XS) : XS := ob c fun x => ob x.isBool fun t => bif t then a else b

/-- a piece of code's number: that of its first region -/
def _root_.Go.Code.tag (c : Code) : Nat :=
  Code.rec (motive := fun _ => Nat) 0 (fun id _ _ => id + 1) (fun _ _ a b => bif Nat.beq a 0 then b else a) (fun _ _ _ a b => bif Nat.beq a 0 then b else a) (fun _ _ a => a) (fun _ a => a) (fun _ _ _ _ _ _ => 0) (fun _ => 0) (fun _ a => a) (fun _ => 0) (fun _ => 0) 0 (fun _ => 0) c
def orXS (r k : XS) : XS := Option.rec k some r
def exec (C : Ctx) (fl n : Nat) (c : Code) : St → XS :=
  Code.rec (motive := fun _ => St → XS)
    nrm
    (fun _ ops draw s => ob (region C fl ops.toList draw s) nrm)
    (fun _ _ ia ib s => thenX (ia s) ib)
    (fun c _ _ ia ib s => condX (evS s.fr c) (ia s) (ib s))
    (fun id _ ib s => blockX id (ib s))
    (fun c ib s => orXS (C.loop (Code.tag c) fl s) (rounds ib n s))
    (fun _ _ _ _ _ _ _ => none)
    (fun id s => some (.exit id, s))
    (fun _ ib s => ib s)
    (fun _ s => nrm s)
    (fun _ _ => none)
    (fun s => some (.ret, s))
    (fun _ _ => none)
    c

/-- a result, read off a slot or off memory -/
def resOf (C : Ctx) (s : St) (r : ResultVar) : Option A :=
  match r with
  | .tmp t => ob (nth s.fr t) V.isA
  | .cell x t => ob (C.ty t) fun T => ob (nth s.fr x) fun v => ob v.isA fun y => ob y.isS fun y => ob y.isPtr fun p => ob (s.h.read p.1 p.2 T.size) T.mk'
def resV (l : List A) : V :=
  match l with
  | [x] => .a x
  | l => .t l
def S.flat (x : S) : Bool := match x with
  | .bool _ | .int .. | .str _ | .nilp | .nils | .nili | .ifc | .sle | .xi .. | .xs _ | .xe _ | .xa .. | .rv _ => true
  | _ => false
def A.flat (x : A) : Bool := x.cells.all S.flat
/-! what nobody can look at any more is forgotten -/
def S.refs (x : S) : List Nat := match x with | .ptr l _ => [l] | .px l _ _ _ => [l] | .sl l _ _ _ _ => [l] | .fn _ cs => cs.map fun p => p.1 | _ => []
def memN (l : Nat) : List Nat → Bool := List.rec false fun x _ ih => Nat.beq x l || ih
def reachF (m : Hp) (n : Nat) : List Nat → List Nat → List Nat :=
  Nat.rec (fun _ seen => seen) (fun _ ih todo seen => match todo with
    | [] => seen
    | l :: r => bif memN l seen then ih r seen else ih (Option.rec r (fun b => b.cells.flatMap S.refs ++ r) (Hp.get m l)) (l :: seen)) n
def rootsOf (rs : List A) : List Nat := rs.flatMap fun x => x.cells.flatMap S.refs
def trimH (n : Nat) (rs : List A) (h : Heap) : Heap :=
  ⟨h.m.filter (fun p => Nat.blt p.1 n || memN p.1 (reachF h.m 1000 (rootsOf rs) [])), h.next⟩
def bodyEnd (C : Ctx) (fn : Func) (h : Heap) (fl : Nat) (s : St) : R :=
  ob (mapO (resOf C s) fn.results.toList) fun rs => bif Nat.ble h.next fl then (bif rs.all A.flat then some (resV rs, h) else some (resV rs, trimH h.next rs s.h)) else some (resV rs, s.h)
/-- the body of a function -/
def body (C : Ctx) (n : Nat) (fn : Func) (args : List A) (h : Heap) (fl : Nat) : R :=
  ob fn.body fun c => ob (exec C fl n c ⟨args.map V.a ++ List.replicate (fn.ntmps - args.length) undef, h⟩) fun p =>
    X.rec (bodyEnd C fn h fl p.2) (fun _ => none) (bodyEnd C fn h fl p.2) p.1

/-- a call without references runs in a memory of its own: the same calls come to the same terms -/
def flatT (ty : Tys) (n : Nat) : TypeId → Bool :=
  Nat.rec (fun _ => false) (fun _ ih t => Option.rec false (fun T => match T.d with | .one => true | .int _ => true | .str => true | .st fs => fs.all (fun p => ih p.2) | .arr _ e => ih e | _ => false) (ty t)) n
def flatF (ty : Tys) (F : Func) : Bool := F.resultTypes.toList.all (flatT ty 6)
def V.flat (x : V) : Bool := match x with | .a x => x.flat | .t l => l.all A.flat | .any => false
section
variable {β : Type}
def S.force (x : S) (k : S → β) : β :=
  match x with
  | .bool b => k (.bool b)
  | .int a n => k (.int a n)
  | .str s => k (.str s)
  | .nilp => k .nilp
  | .nils => k .nils
  | .nili => k .nili
  | .xi a i => k (.xi a i)
  | .xs l => k (.xs l)
  | .xe l => k (.xe l)
  | .xa l b => k (.xa l b)
  | .rv j => k (.rv j)
  | x => k x
def forceS (l : List S) : (List S → β) → β := List.rec (fun k => k []) (fun x _ ih k => x.force fun x => ih fun t => k (x :: t)) l
def A.force (x : A) (k : A → β) : β := match x with | .s x => x.force fun x => k (.s x) | .g l => forceS l fun l => k (.g l)
def forceA (l : List A) : (List A → β) → β := List.rec (fun k => k []) (fun x _ ih k => x.force fun x => ih fun t => k (x :: t)) l
end
def callF (C : Ctx) (n : Nat) (F : Func) (args : List A) (h : Heap) (fl : Nat) : R :=
  bif flatF C.ty F && args.all A.flat then forceA args fun args => ob (body C n F args ⟨[], 0⟩ 0) fun p => bif p.1.flat then some (p.1, h) else none
  else body C n F args h fl
def runsL (ty : Tys) (fn : FuncId → Option Func) (lib : Oracle) (tb : Tabs) (loops : FuncId → Loops) (n : Nat) (d : Nat) : Oracle :=
  Nat.rec (fun _ _ _ _ => none) (fun _ ih f args h fl => orR (lib f args h fl) (ob (fn f) fun F => callF ⟨ty, ih, tb, loops f⟩ n F args h fl)) d
def runs (ty : Tys) (fn : FuncId → Option Func) (lib : Oracle) (n : Nat) (d : Nat) : Oracle := runsL ty fn lib Tabs.nought (fun _ _ _ _ => none) n d
end
end
end Go.Proofs.Ytbebbbclhgjcbaa.Am
/-! Types, out of the program. (No program in sight.) -/
namespace Go.Proofs.Ytbebbbclhgjcbaa.Am
def cellOf (v : Value) : Option S := match ofValue v with | some (.s x) => some x | _ => none
noncomputable def zeroCells (v : Value) : Option (List S) := mapO cellOf v.cells.toList
def dOf : TypeDesc → D
  | .bool => .one
  | .int k => .int k
  | .string => .str
  | .pointer e => .ptr e
  | .slice e => .sl e
  | .array n e => .arr n e
  | .struct fs => .st (fs.toList.map fun f => (f.offset, f.type))
  | .interface _ => .ifc
  | _ => .other
/-- == of two such values is that of their parts -/
def cmpOf (P : Program) (t : TypeId) (d : TypeDesc) : Bool :=
  match d with
  | .struct fs => fs.toList.all (fun f => !(f.name == "_")) && !P.stoodInHeld t && !P.eqGuardType P.depth t
  | .array .. => !P.eqGuardType P.depth t
  | _ => false
noncomputable def tyOf (P : Program) (t : TypeId) : Option Ty :=
  match P.toTables.info? t, P.underlying t with
  | some i, some d => match i.zero with
    | some z => match zeroCells z with
      | some c => some ⟨dOf d, i.size, i.bytes, c, cmpOf P t d⟩
      | none => none
    | none => none
  | _, _ => none
def fnOf (P : Program) (f : FuncId) : Option Func := P.funcs[f]?
end Go.Proofs.Ytbebbbclhgjcbaa.Am
/-! What the abstract machine's values and memory stand for. (No program in sight.) -/
namespace Go.Proofs.Ytbebbbclhgjcbaa.Am
set_option linter.unusedSectionVars false

def All2 {α β : Type} (R : α → β → Prop) : List α → List β → Prop
  | [], [] => True
  | x :: xs, y :: ys => R x y ∧ All2 R xs ys
  | _, _ => False
section
variable {α β : Type} {R R' : α → β → Prop}
theorem All2.len : ∀ {xs : List α} {ys : List β}, All2 R xs ys → xs.length = ys.length
  | [], [], _ => rfl
  | _ :: _, _ :: _, h => by simp [All2.len h.2]
  | [], _ :: _, h => h.elim
  | _ :: _, [], h => h.elim
theorem All2.imp (f : ∀ x y, R x y → R' x y) : ∀ {xs : List α} {ys : List β}, All2 R xs ys → All2 R' xs ys
  | [], [], _ => trivial
  | _ :: _, _ :: _, h => ⟨f _ _ h.1, All2.imp f h.2⟩
  | [], _ :: _, h => h.elim
  | _ :: _, [], h => h.elim
theorem All2.app : ∀ {xs xs' : List α} {ys ys' : List β}, All2 R xs ys → All2 R xs' ys' → All2 R (xs ++ xs') (ys ++ ys')
  | [], _, [], _, _, k => k
  | _ :: _, _, _ :: _, _, h, k => ⟨h.1, All2.app h.2 k⟩
  | [], _, _ :: _, _, h, _ => h.elim
  | _ :: _, _, [], _, h, _ => h.elim
theorem All2.drop : ∀ (n : Nat) {xs : List α} {ys : List β}, All2 R xs ys → All2 R (xs.drop n) (ys.drop n)
  | 0, _, _, h => h
  | _ + 1, [], [], h => h
  | n + 1, _ :: _, _ :: _, h => by simpa using All2.drop n h.2
  | _ + 1, [], _ :: _, h => h.elim
  | _ + 1, _ :: _, [], h => h.elim
theorem All2.take : ∀ (n : Nat) {xs : List α} {ys : List β}, All2 R xs ys → All2 R (xs.take n) (ys.take n)
  | 0, _, _, _ => by simp [All2]
  | _ + 1, [], [], h => h
  | n + 1, _ :: _, _ :: _, h => by simp only [List.take_succ_cons]; exact ⟨h.1, All2.take n h.2⟩
  | _ + 1, [], _ :: _, h => h.elim
  | _ + 1, _ :: _, [], h => h.elim
theorem nth_cons_zero (x : α) (t : List α) : nth (x :: t) 0 = some x := rfl
theorem nth_cons_succ (x : α) (t : List α) (n : Nat) : nth (x :: t) (n + 1) = nth t n := rfl
theorem nth_nil (n : Nat) : nth ([] : List α) n = none := rfl
theorem nth_eq : ∀ (l : List α) (n : Nat), nth l n = l[n]?
  | [], _ => by simp [nth_nil]
  | x :: t, 0 => by simp [nth_cons_zero]
  | x :: t, n + 1 => by simp [nth_cons_succ, nth_eq t n]
theorem upd_cons_zero (x y : α) (t : List α) : upd (x :: t) 0 y = y :: t := rfl
theorem upd_cons_succ (x y : α) (t : List α) (n : Nat) : upd (x :: t) (n + 1) y = x :: upd t n y := rfl
theorem upd_nil (n : Nat) (y : α) : upd ([] : List α) n y = [] := rfl
theorem upd_eq : ∀ (l : List α) (n : Nat) (y : α), upd l n y = l.set n y
  | [], _, _ => by simp [upd_nil]
  | x :: t, 0, _ => by simp [upd_cons_zero]
  | x :: t, n + 1, _ => by simp [upd_cons_succ, upd_eq t n]
theorem All2.nth : ∀ {xs : List α} {ys : List β} {n : Nat} {x : α}, All2 R xs ys → nth xs n = some x → ∃ y, ys[n]? = some y ∧ R x y
  | [], _, _, _, _, h => by simp [nth_nil] at h
  | _ :: _, [], _, _, h, _ => h.elim
  | a :: t, b :: u, 0, x, h, k => by simp [nth_cons_zero] at k; subst k; exact ⟨b, rfl, h.1⟩
  | a :: t, b :: u, n + 1, x, h, k => by rw [nth_cons_succ] at k; simpa using All2.nth h.2 k
theorem All2.set : ∀ {xs : List α} {ys : List β} (n : Nat) {x : α} {y : β}, All2 R xs ys → R x y → All2 R (xs.set n x) (ys.set n y)
  | [], [], _, _, _, h, _ => by simpa using h
  | _ :: _, [], _, _, _, h, _ => h.elim
  | [], _ :: _, _, _, _, h, _ => h.elim
  | a :: t, b :: u, 0, x, y, h, k => ⟨k, h.2⟩
  | a :: t, b :: u, n + 1, x, y, h, k => ⟨h.1, All2.set n h.2 k⟩
theorem taken_eq : ∀ (l : List α) (n : Nat) (r : List α), taken l n = some r → n ≤ l.length ∧ r = l.take n
  | [], 0, r, h => by cases h; simp
  | [], n + 1, r, h => by cases h
  | x :: t, 0, r, h => by cases h; simp
  | x :: t, n + 1, r, h => by
    have h' : (Option.rec none (fun r => some (x :: r)) (taken t n) : Option (List α)) = some r := h
    cases hk : taken t n with
    | none => rw [hk] at h'; simp at h'
    | some q =>
      rw [hk] at h'
      simp at h'
      obtain ⟨h1, rfl⟩ := taken_eq t n q hk
      subst h'
      simp [h1]
theorem ext_eq {l : List α} {o n : Nat} {r : List α} (h : ext l o n = some r) : (n = 0 ∨ o + n ≤ l.length) ∧ r = (l.drop o).take n := by
  obtain ⟨h1, h2⟩ := taken_eq _ _ _ h
  refine ⟨?_, h2⟩
  simp at h1
  omega
theorem over_eq : ∀ (l ys r : List α), over l ys = some r → ys.length ≤ l.length ∧ r = ys ++ l.drop ys.length
  | [], [], r, h => by cases h; simp
  | [], y :: ys, r, h => by cases h
  | x :: t, [], r, h => by cases h; simp
  | x :: t, y :: ys, r, h => by
    have h' : (Option.rec none (fun r => some (y :: r)) (over t ys) : Option (List α)) = some r := h
    cases hk : over t ys with
    | none => rw [hk] at h'; simp at h'
    | some q =>
      rw [hk] at h'
      simp at h'
      obtain ⟨h1, rfl⟩ := over_eq t ys q hk
      subst h'
      simp [h1]
theorem lay_eq {l : List α} {o : Nat} {ys r : List α} (h : lay l o ys = some r) : (ys = [] ∨ o + ys.length ≤ l.length) ∧ r = l.take o ++ (ys ++ l.drop (o + ys.length)) := by
  have h' : (Option.rec none (fun r => some (l.take o ++ r)) (over (l.drop o) ys) : Option (List α)) = some r := h
  cases hk : over (l.drop o) ys with
  | none => rw [hk] at h'; simp at h'
  | some q =>
    rw [hk] at h'
    simp at h'
    obtain ⟨h1, rfl⟩ := over_eq _ _ _ hk
    subst h'
    simp at h1
    refine ⟨?_, by simp [List.drop_drop]⟩
    cases ys with
    | nil => exact .inl rfl
    | cons y ys => right; simp at h1 ⊢; omega
theorem mapO_nil (f : α → Option β) : mapO f [] = some [] := rfl
theorem mapO_cons (f : α → Option β) (x : α) (t : List α) : mapO f (x :: t) = ob (f x) fun y => ob (mapO f t) fun r => some (y :: r) := rfl
theorem ob_some {x : Option α} {f : α → Option β} {y : β} (h : ob x f = some y) : ∃ a, x = some a ∧ f a = some y := by
  cases x with
  | none => simp [ob] at h
  | some a => exact ⟨a, rfl, h⟩
@[simp] theorem ob_none' (f : α → Option β) : ob none f = none := rfl
@[simp] theorem ob_some' (a : α) (f : α → Option β) : ob (some a) f = f a := rfl
theorem mapO_all {f : α → Option β} : ∀ {xs : List α} {ys : List β}, mapO f xs = some ys → All2 (fun x y => f x = some y) xs ys
  | [], ys, h => by simp [mapO_nil] at h; subst h; trivial
  | x :: t, ys, h => by
    rw [mapO_cons] at h
    obtain ⟨y, hy, h⟩ := ob_some h
    obtain ⟨r, hr, h⟩ := ob_some h
    simp at h
    subst h
    exact ⟨hy, mapO_all hr⟩
end

/-- the first blocks of memory, which nobody writes -/
def strX (sig : Nat → List UInt8) : List Nat → List UInt8
  | [] => []
  | n :: r => (bif Nat.blt n 256 then [UInt8.ofNat n] else sig (n - 256)) ++ strX sig r
def nI (rho : Nat → Int) (a : N) : Int := match a with | .c n => n | .x i => rho i
/-- a string from a to b, or to its end, is m -/
def CutOk (l : List UInt8) (a : Int) (b : Option Int) (m : List UInt8) : Prop :=
  ∃ p q : Nat, a = p ∧ (match b with | some e => e = q | none => q = l.length) ∧ p ≤ q ∧ q ≤ l.length ∧ (l.take q).drop p = m
/-- a cell's number -/
def S.i64 (rho : Nat → Int) (x : S) : Option Int := match x with | .int .i64 n => some n | .xi .i64 i => some (rho i) | _ => none
structure XTabOk (T : XTab) (rho : Nat → Int) : Prop where
  lf : ∀ i j d, (i, j, d) ∈ T.lf → (rho d = 1 ↔ rho i < rho j)
  sm : ∀ i j k, (i, j, k) ∈ T.sm → rho i + rho j = rho k ∧ IntKind.i64.min ≤ rho k ∧ rho k ≤ IntKind.i64.max
  ld : ∀ cs i m, (cs, i, m) ∈ T.ld → ∀ (j : Nat) c, cs[j]? = some c → rho i = j → c.i64 rho = some (rho m)
  sr : ∀ cs i m ds, (cs, i, m, ds) ∈ T.sr → ds.length = cs.length ∧ ∀ (j : Nat) c d, cs[j]? = some c → ds[j]? = some d → ∃ a, c.i64 rho = some a ∧ d.i64 rho = some (if rho i = j then rho m else a)
  eq : ∀ i j d, (i, j, d) ∈ T.eq → (rho d = 1 ↔ rho i = rho j)
theorem XTabOk.nought (rho : Nat → Int) : XTabOk XTab.nought rho := ⟨fun _ _ _ h => (by cases h), fun _ _ _ h => (by cases h), fun _ _ _ h => (by cases h), fun _ _ _ _ h => (by cases h), fun _ _ _ h => (by cases h)⟩
/-- what is said to be known is so -/
structure KnowOk (K : Know) (rho : Nat → Int) (sig : Nat → List UInt8) : Prop where
  iv : ∀ i p, nth K.iv i = some p → p.1 ≤ rho i ∧ rho i ≤ p.2
  ne : ∀ i j, hasPair K.ne i j = true → rho i ≠ rho j
  lt : ∀ i j, hasPair K.lt i j = true → rho i < rho j
  mx : ∀ i m, nth K.mx i = some m → (sig i).length ≤ m
  sq : ∀ a b r, (a, b, r) ∈ K.sq → decide (strX sig a = strX sig b) = r
  ln : ∀ a j, (a, j) ∈ K.ln → rho j = (strX sig a).length
  cf : ∀ m, m ∈ K.cf → (m.all fun p => decide (rho p.1 = p.2)) = false
  df : ∀ i j d, (i, j, d) ∈ K.df → (rho i = rho j ↔ rho d = 0)
  sx : ∀ a b l, (a, b, l) ∈ K.sx → decide (strX sig a = strX sig b) = l.all fun p => decide (rho p.1 = p.2)
  ct : ∀ l a b m, (l, a, b, m) ∈ K.ct → CutOk (strX sig l) (nI rho a) (b.map (nI rho)) (strX sig m)
  sb : ∀ i j k, (i, j, k) ∈ K.sb → rho i - rho j = rho k ∧ IntKind.i64.min ≤ rho k ∧ rho k ≤ IntKind.i64.max
  ad : ∀ i c k, (i, c, k) ∈ K.ad → rho i + c = rho k ∧ IntKind.i64.min ≤ rho k ∧ rho k ≤ IntKind.i64.max
  xt : XTabOk K.xt rho
theorem KnowOk.nought (rho : Nat → Int) (sig : Nat → List UInt8) : KnowOk Know.nought rho sig :=
  ⟨fun i p h => (by cases h), fun i j h => (by cases h), fun i j h => (by cases h), fun i m h => (by cases h), fun a b r h => (by cases h), fun a j h => (by cases h), fun m h => (by cases h), fun _ _ _ h => (by cases h), fun _ _ _ h => (by cases h), fun _ _ _ _ h => (by cases h), fun _ _ _ h => (by cases h), fun _ _ _ h => (by cases h), XTabOk.nought rho⟩
/-- a list: the slice, the cells of each element -/
structure RowV where
  v : Value
  els : List (List Value)
class Base extends Know where
  nb : Nat
  g : Nat → Option Obj
  rho : Nat → Int
  sig : Nat → List UInt8
  ok : KnowOk toKnow rho sig
  lst : Nat → RowV := fun _ => ⟨.pointer none, []⟩
variable [Base]
def NV (a : N) : Int := match a with | .c n => n | .x i => Base.rho i
/-- memory whose first blocks are these -/
def Here (w : World) : Prop := ∀ b, b < Base.nb → w.heap[b]? = Base.g b
/-- an element of a list, from this address on -/
def ElAt (k : Nat) (i : N) (b off : Nat) (el : List Value) : Prop :=
  (Base.lst k).els[(NV i).toNat]? = some el ∧ ∀ f u, el[f]? = some u → ∀ w : World, Here w → w.cell? ⟨b, off + f, none⟩ = some u

/-- where the machine's blocks lie -/
structure Ren where
  ok : Nat → Prop
  blk : Nat → Nat
  off : Nat → Nat
  cap : Nat → Nat
structure Ren.le (r r' : Ren) : Prop where
  n : ∀ l, r.ok l → r'.ok l
  blk : ∀ l, r.ok l → r'.blk l = r.blk l
  off : ∀ l, r.ok l → r'.off l = r.off l
  cap : ∀ l, r.ok l → r'.cap l = r.cap l
theorem Ren.le.refl (r : Ren) : r.le r := ⟨fun _ h => h, fun _ _ => rfl, fun _ _ => rfl, fun _ _ => rfl⟩
theorem Ren.le.trans {a b c : Ren} (h : a.le b) (k : b.le c) : a.le c :=
  ⟨fun l hl => k.n l (h.n l hl), fun l hl => (k.blk l (h.n l hl)).trans (h.blk l hl), fun l hl => (k.off l (h.n l hl)).trans (h.off l hl), fun l hl => (k.cap l (h.n l hl)).trans (h.cap l hl)⟩

def Ren.at (r : Ren) (l o : Nat) : Addr := ⟨r.blk l, r.off l + o, none⟩
theorem Ren.le.at {r r' : Ren} (h : r.le r') {l : Nat} (hl : r.ok l) (o : Nat) : r'.at l o = r.at l o := by simp [Ren.at, h.blk l hl, h.off l hl]

def VS (r : Ren) (x : S) (v : Value) : Prop :=
  match x with
  | .bool b => v = .bool b
  | .int k n => v = .int k n
  | .str s => v = .string ⟨s.toArray⟩
  | .ptr l o => r.ok l ∧ v = .pointer (some (r.at l o))
  | .nilp => v = .pointer none
  | .sl l o n z none => r.ok l ∧ (0 < z ∧ (r.cap l - o) / z ≤ maxLen) ∧ n ≤ (r.cap l - o) / z ∧ v = .slice (some (r.at l o)) n ((r.cap l - o) / z)
  | .sl l o n z (some c) => r.ok l ∧ 0 < z ∧ n ≤ c ∧ v = .slice (some (r.at l o)) n c
  | .sle => ∃ a c, v = .slice (some a) 0 c
  | .nils => v = .slice none 0 0
  | .fn f cs => (∀ p ∈ cs, r.ok p.1) ∧ v = .func (.func f) #[] (cs.map fun p => .pointer (some (r.at p.1 p.2))).toArray
  | .nili => v = .nilIface
  | .xi k i => v = .int k (Base.rho i)
  | .xs l => v = .string ⟨(strX Base.sig l).toArray⟩
  | .xe l => v = .bool (l.any fun p => decide (Base.rho p.1 = p.2))
  | .xa l b => v = .bool ((l.all fun p => decide (Base.rho p.1 = p.2)) == b)
  | .px l o n i => r.ok l ∧ 0 ≤ Base.rho i ∧ Base.rho i < n ∧ v = .pointer (some (r.at l (o + (Base.rho i).toNat)))
  | .ifc => ∃ t x, v = .iface t x
  | .rv k => ∃ A n c, (Base.lst k).v = .slice A n c ∧ v = .slice A n c
  | .pe k i o => ∃ b off el, ElAt k i b off el ∧ v = .pointer (some ⟨b, off + o, none⟩)
  | .top => v.oneCell' = true
def VA (r : Ren) (x : A) (v : Value) : Prop :=
  match x with
  | .s x => VS r x v
  | .g l => ∃ vs : List Value, v = .agg vs.toArray ∧ All2 (VS r) l vs
def VV (r : Ren) (x : V) (v : Value) : Prop :=
  match x with
  | .a x => VA r x v
  | .t l => ∃ vs : List Value, v = .tuple vs.toArray ∧ All2 (VA r) l vs
  | .any => True

theorem VS.mono {r r' : Ren} (h : r.le r') {x : S} {v : Value} (k : VS r x v) : VS r' x v := by
  cases x with
  | ptr l o => exact ⟨h.n _ k.1, by rw [h.at k.1]; exact k.2⟩
  | sl l o n z c =>
    cases c with
    | none => exact ⟨h.n _ k.1, ⟨k.2.1.1, by rw [h.cap l k.1]; exact k.2.1.2⟩, by rw [h.cap l k.1]; exact k.2.2.1, by rw [h.cap l k.1, h.at k.1]; exact k.2.2.2⟩
    | some c => exact ⟨h.n _ k.1, k.2.1, k.2.2.1, by rw [h.at k.1]; exact k.2.2.2⟩
  | px l o n i => exact ⟨h.n _ k.1, k.2.1, k.2.2.1, by rw [h.at k.1]; exact k.2.2.2⟩
  | fn f cs =>
    refine ⟨fun p hp => h.n _ (k.1 p hp), ?_⟩
    rw [k.2]
    congr 2
    exact List.map_congr_left fun p hp => by rw [h.at (k.1 p hp)]
  | _ => exact k
theorem VA.mono {r r' : Ren} (h : r.le r') {x : A} {v : Value} (k : VA r x v) : VA r' x v := by
  cases x with
  | s x => exact VS.mono h k
  | g l => obtain ⟨vs, e, a⟩ := k; exact ⟨vs, e, a.imp fun _ _ => VS.mono h⟩
theorem VV.mono {r r' : Ren} (h : r.le r') {x : V} {v : Value} (k : VV r x v) : VV r' x v := by
  cases x with
  | a x => exact VA.mono h k
  | t l => obtain ⟨vs, e, a⟩ := k; exact ⟨vs, e, a.imp fun _ _ => VA.mono h⟩
  | any => trivial
theorem VS.one {r : Ren} {x : S} {v : Value} (k : VS r x v) : v.oneCell' = true := by
  cases x with
  | ptr l o => rw [k.2]; rfl
  | sl l o n z c => cases c with
    | none => rw [k.2.2.2]; rfl
    | some c => rw [k.2.2.2]; rfl
  | fn f cs => rw [k.2]; rfl
  | px l o n i => rw [k.2.2.2]; rfl
  | sle => obtain ⟨a, c, e⟩ := k; rw [e]; rfl
  | ifc => obtain ⟨a, c, e⟩ := k; rw [e]; rfl
  | rv j => obtain ⟨A, n, c, _, e⟩ := k; rw [e]; rfl
  | pe j i o => obtain ⟨b, off, el, _, e⟩ := k; rw [e]; rfl
  | top => exact k
  | _ => cases k; rfl
theorem VA.cells {r : Ren} {x : A} {v : Value} (k : VA r x v) : All2 (VS r) x.cells v.cells.toList := by
  cases x with
  | s x =>
    have h1 := VS.one k
    have : v.cells = #[v] := by cases v <;> simp_all [Value.cells, Value.oneCell']
    rw [this]
    exact ⟨k, trivial⟩
  | g l => obtain ⟨vs, e, a⟩ := k; subst e; simpa [Value.cells, A.cells] using a
theorem VS.undef {r : Ren} : VV r undef Go.undef := ⟨[], rfl, trivial⟩

/-- memory: what the machine has, the model has, in blocks of its own from B on -/
structure HR (m : Nat → Option Blk) (r : Ren) (B : Nat) (w : World) : Prop where
  dom : ∀ l b, m l = some b → r.ok l
  own : ∀ l b, m l = some b → b.own = true → B ≤ r.blk l ∧ r.off l = 0 ∧ ∃ C T fz, w.heap[r.blk l]? = some (.cells C T fz) ∧ C.size = r.cap l ∧
    (∀ i, i ≤ C.size → (fz.1 ≤ i && i < fz.2) = false) ∧ ∀ i x, nth b.cells i = some x → ∃ u, C[i]? = some u ∧ VS r x u
  ro : ∀ l b, m l = some b → b.own = false → r.blk l < B ∧ ∀ i x, nth b.cells i = some x → ∃ u, w.cell? (r.at l i) = some u ∧ VS r x u
  inj : ∀ l b l' b', m l = some b → b.own = true → m l' = some b' → b'.own = true → r.blk l = r.blk l' → l = l'
  nb : Base.nb ≤ B
  z : ∀ b, b < Base.nb → w.heap[b]? = Base.g b

/-- what a cell of a block reads -/
theorem HR.cell {m : Nat → Option Blk} {r : Ren} {B : Nat} {w : World} (h : HR m r B w) {l : Nat} {b : Blk} (hb : m l = some b) {i : Nat} {x : S} (hx : nth b.cells i = some x) : ∃ u, w.cell? (r.at l i) = some u ∧ VS r x u := by
  cases ho : b.own with
  | false => exact (h.ro l b hb ho).2 i x hx
  | true =>
    obtain ⟨_, hz, C, T, fz, hc, _, _, hv⟩ := h.own l b hb ho
    obtain ⟨u, hu, hxu⟩ := hv i x hx
    exact ⟨u, by simp [Ren.at, World.cell?, hc, hz, hu], hxu⟩

/-- how a world goes on -/
structure Adv (fl : Nat) (h : Heap) (r : Ren) (w : World) (h' : Heap) (r' : Ren) (w' : World) : Prop where
  le : r.le r'
  nn : h.next ≤ h'.next
  okn : ∀ l, r'.ok l → r.ok l ∨ h.next ≤ l
  os : w'.os = w.os
  tape : w'.tape = w.tape
  output : w'.output = w.output
  size : w.heap.size ≤ w'.heap.size
  frame : ∀ b, b < w.heap.size → (∀ l k, h.get l = some k → k.own = true → fl ≤ l → r.blk l ≠ b) → w'.heap[b]? = w.heap[b]?
  keep : ∀ l, l < h.next → l < fl → h'.get l = h.get l
  old : ∀ l b', l < h.next → h'.get l = some b' → ∃ b, h.get l = some b ∧ b.own = b'.own
  fresh : ∀ l b', h.next ≤ l → h'.get l = some b' → b'.own = true ∧ (w.heap.size ≤ r'.blk l ∨ ∃ l0 b0, h.get l0 = some b0 ∧ b0.own = true ∧ fl ≤ l0 ∧ r'.blk l = r.blk l0)

/-- the machine's memory and the model's -/
structure Inv (h : Heap) (r : Ren) (B : Nat) (w : World) : Prop where
  n : ∀ l, r.ok l → l < h.next
  b : B ≤ w.heap.size
  hr : HR h.get r B w

theorem Adv.refl (fl : Nat) {h : Heap} {r : Ren} {B : Nat} {w : World} (i : Inv h r B w) : Adv fl h r w h r w :=
  ⟨Ren.le.refl r, Nat.le_refl _, fun _ h => .inl h, rfl, rfl, rfl, Nat.le_refl _, fun _ _ _ => rfl, fun _ _ _ => rfl, fun _ b' _ h => ⟨b', h, rfl⟩, fun l b' hl hb => absurd (i.n l (i.hr.dom l b' hb)) (Nat.not_lt.2 hl)⟩
theorem Adv.trans {fl B : Nat} {m m' m'' : Heap} {r r' r'' : Ren} {w w' w'' : World} (i : Inv m r B w) (i' : Inv m' r' B w') (h : Adv fl m r w m' r' w') (k : Adv fl m' r' w' m'' r'' w'') : Adv fl m r w m'' r'' w'' where
  le := h.le.trans k.le
  nn := Nat.le_trans h.nn k.nn
  okn l hl := by
    rcases k.okn l hl with g | g
    · exact h.okn l g
    · exact .inr (Nat.le_trans h.nn g)
  os := k.os.trans h.os
  tape := k.tape.trans h.tape
  output := k.output.trans h.output
  size := Nat.le_trans h.size k.size
  frame b hb hno := by
    rw [k.frame b (Nat.lt_of_lt_of_le hb h.size) ?_, h.frame b hb hno]
    intro l c hc ho hfl he
    by_cases hl : l < m.next
    · obtain ⟨c', hc', ho'⟩ := h.old l c hl hc
      rw [h.le.blk l (i.hr.dom l c' hc')] at he
      exact hno l c' hc' (ho'.trans ho) hfl he
    · rcases (h.fresh l c (Nat.le_of_not_lt hl) hc).2 with hs | ⟨l0, b0, h0, o0, f0, e0⟩
      · omega
      · exact hno l0 b0 h0 o0 f0 (e0.symm.trans he)
  keep l hl hfl := by rw [k.keep l (Nat.lt_of_lt_of_le hl h.nn) hfl, h.keep l hl hfl]
  old l b' hl hb := by
    obtain ⟨c, hc, oc⟩ := k.old l b' (Nat.lt_of_lt_of_le hl h.nn) hb
    obtain ⟨d, hd, od⟩ := h.old l c hl hc
    exact ⟨d, hd, od.trans oc⟩
  fresh l b' hl hb := by
    by_cases hl' : l < m'.next
    · obtain ⟨c, hc, oc⟩ := k.old l b' hl' hb
      rw [k.le.blk l (i'.hr.dom l c hc), ← oc]
      exact h.fresh l c hl hc
    · obtain ⟨ho, hh⟩ := k.fresh l b' (Nat.le_of_not_lt hl') hb
      refine ⟨ho, ?_⟩
      rcases hh with hs | ⟨l0, b0, h0, o0, f0, e0⟩
      · exact .inl (Nat.le_trans h.size hs)
      · by_cases h00 : l0 < m.next
        · obtain ⟨c, hc, oc⟩ := h.old l0 b0 h00 h0
          exact .inr ⟨l0, c, hc, oc.trans o0, f0, by rw [e0, h.le.blk l0 (i.hr.dom l0 c hc)]⟩
        · rcases (h.fresh l0 b0 (Nat.le_of_not_lt h00) h0).2 with hs | ⟨l1, b1, h1, o1, f1, e1⟩
          · exact .inl (by rw [e0]; exact hs)
          · exact .inr ⟨l1, b1, h1, o1, f1, by rw [e0, e1]⟩
end Go.Proofs.Ytbebbbclhgjcbaa.Am
/-! The abstract machine's operations without memory are the model's. (No program in sight.) -/
namespace Go.Proofs.Ytbebbbclhgjcbaa.Am
set_option linter.unusedSectionVars false
variable [Base]

def TyOk (P : Program) (ty : Tys) : Prop := ∀ t T, ty t = some T → ∃ i d z, P.toTables.info? t = some i ∧ P.underlying t = some d ∧ i.zero = some z ∧
  T.d = dOf d ∧ T.size = i.size ∧ T.bytes = i.bytes ∧ T.cmp = cmpOf P t d ∧ ∀ r, All2 (VS r) T.zero z.cells.toList

theorem cellOf_ok {v : Value} {s : S} (h : cellOf v = some s) (r : Ren) : VS r s v := by
  unfold cellOf ofValue at h
  split at h
  · rename_i x hx
    simp at h
    subst h
    split at hx <;> simp at hx <;> subst hx <;> simp [VS]
  · simp at h
theorem ofValue_ok {v : Value} {x : A} (h : ofValue v = some x) (r : Ren) : VA r x v := by
  unfold ofValue at h
  split at h <;> simp at h <;> subst h <;> simp [VA, VS]
theorem tyOf_ok (P : Program) : TyOk P (tyOf P) := by
  intro t T h
  unfold tyOf at h
  split at h
  · rename_i i d hi hd
    split at h
    · rename_i z hz
      split at h
      · rename_i c hc
        simp at h
        subst h
        refine ⟨i, d, z, hi, hd, hz, rfl, rfl, rfl, rfl, fun r => ?_⟩
        have := mapO_all hc
        clear hc hz
        generalize z.cells.toList = l at this
        induction c generalizing l with
        | nil => cases l <;> first | trivial | exact this.elim
        | cons x c ih => cases l with
          | nil => exact this.elim
          | cons y l => exact ⟨cellOf_ok this.1 r, ih l this.2⟩
      · simp at h
    · simp at h
  · simp at h

/-- a frame -/
def FR (r : Ren) (fr : Fr) (a : Act) : Prop := All2 (VV r) fr a.tmps.toList
theorem ev_ok {r : Ren} {fr : Fr} {a : Act} (h : FR r fr a) {x : Operand} {v : V} (k : ev fr x = some v) : VV r v (a.eval x) := by
  cases x with
  | tmp t =>
    obtain ⟨u, hu, hv⟩ := All2.nth h k
    have : a.tmps.getD t Go.undef = u := by
      simp at hu
      obtain ⟨h1, h2⟩ := Array.getElem?_eq_some_iff.1 hu
      simp [Array.getD, h1, h2]
    rw [Act.eval, this]
    exact hv
  | const v' =>
    obtain ⟨y, hy, hv⟩ := ob_some (show ob (ofValue v') vA = some v from k)
    simp [vA] at hv
    subst hv
    exact ofValue_ok hy r
  | global g => cases k
  | func f =>
    cases k
    exact ⟨by simp, by simp [Act.eval]⟩
theorem evA_ok {r : Ren} {fr : Fr} {a : Act} (h : FR r fr a) {x : Operand} {v : A} (k : evA fr x = some v) : VA r v (a.eval x) := by
  obtain ⟨y, hy, hv⟩ := ob_some k
  cases y with
  | a y => cases hv; exact ev_ok h hy
  | t l => cases hv
  | any => cases hv
theorem evS_ok {r : Ren} {fr : Fr} {a : Act} (h : FR r fr a) {x : Operand} {v : S} (k : evS fr x = some v) : VS r v (a.eval x) := by
  obtain ⟨y, hy, hv⟩ := ob_some k
  cases y with
  | s y => cases hv; exact evA_ok h hy
  | g l => cases hv
theorem evInt_ok {r : Ren} {fr : Fr} {a : Act} (h : FR r fr a) {x : Operand} {n : Int} (k : evInt fr x = some n) : ∃ q, a.eval x = .int q n := by
  obtain ⟨y, hy, hv⟩ := ob_some k
  have := evS_ok h hy
  unfold S.isInt at hv
  split at hv <;> simp at hv
  subst hv
  exact ⟨_, this⟩
theorem evPtr_ok {r : Ren} {fr : Fr} {a : Act} (h : FR r fr a) {x : Operand} {p : Nat × Nat} (k : evPtr fr x = some p) : r.ok p.1 ∧ a.eval x = .pointer (some (r.at p.1 p.2)) := by
  obtain ⟨y, hy, hv⟩ := ob_some k
  have := evS_ok h hy
  unfold S.isPtr at hv
  split at hv <;> simp at hv
  subst hv
  exact this
theorem FR.put {r : Ren} {fr : Fr} {a : Act} (h : FR r fr a) (d : Option Tmp) {v : V} {u : Value} (k : VV r v u) : FR r (putV fr d v) (a.put d u) := by
  cases d with
  | none => exact h
  | some d =>
    show All2 (VV r) (upd fr d v) (a.tmps.setIfInBounds d u).toList
    rw [upd_eq, Array.toList_setIfInBounds]
    exact All2.set d h k
theorem FR.mono {r r' : Ren} (h : r.le r') {fr : Fr} {a : Act} (k : FR r fr a) : FR r' fr a := All2.imp (fun _ _ => VV.mono h) k

section
variable {P : Program} {ty : Tys}
theorem TyOk.int {h : TyOk P ty} {t : TypeId} {T : Ty} (ht : ty t = some T) {d : TypeDesc} (hd : P.underlying t = some d) : T.d = dOf d := by
  obtain ⟨i, d', z, _, h2, _, h4, _⟩ := h t T ht
  rw [hd] at h2
  cases h2
  exact h4
theorem dOf_int {d : TypeDesc} {k : IntKind} (h : dOf d = .int k) : d = .int k := by cases d <;> simp_all [dOf]
theorem dOf_one {d : TypeDesc} (h : dOf d = .one) : d = .bool := by cases d <;> simp_all [dOf]
theorem dOf_str {d : TypeDesc} (h : dOf d = .str) : d = .string := by cases d <;> simp_all [dOf]
theorem dOf_ptr {d : TypeDesc} {e : TypeId} (h : dOf d = .ptr e) : d = .pointer e := by cases d <;> simp_all [dOf]
theorem dOf_sl {d : TypeDesc} {e : TypeId} (h : dOf d = .sl e) : d = .slice e := by cases d <;> simp_all [dOf]
theorem dOf_arr {d : TypeDesc} {n : Nat} {e : TypeId} (h : dOf d = .arr n e) : d = .array n e := by cases d <;> simp_all [dOf]
theorem dOf_ifc {d : TypeDesc} (h : dOf d = .ifc) : ∃ m, d = .interface m := by cases d <;> simp_all [dOf]
theorem dOf_st {d : TypeDesc} {fs : List (Nat × TypeId)} (h : dOf d = .st fs) : ∃ F, d = .struct F ∧ fs = F.toList.map fun f => (f.offset, f.type) := by
  cases d <;> simp_all [dOf]
end

section
variable {P : Program} {w : World}
theorem intOp_ok {op : BinOp} {k : IntKind} {x y : Int} {s : S} (t : TypeId) (h : intOp op k x y = some s) (r : Ren) : ∃ u, (binOp op t (.int k x) (.int k y)).run P w = .ok u w ∧ VS r s u := by
  cases op <;> simp only [intOp] at h <;> (first | (cases h; done) | skip) <;> (try (cases h; exact ⟨_, by simp [binOp, Op.intArith, Op.intBits, Op.intCmp, bits], rfl⟩))
  · unfold quo at h
    cases hb : (y == 0) <;> simp only [hb, cond_true, cond_false] at h
    · cases h
      have h0 : y ≠ 0 := by simpa using hb
      exact ⟨_, by simp [binOp, Op.intDiv, h0], rfl⟩
    · cases h
  · unfold rem at h
    cases hb : (y == 0) <;> simp only [hb, cond_true, cond_false] at h
    · cases h
      have h0 : y ≠ 0 := by simpa using hb
      exact ⟨_, by simp [binOp, Op.intDiv, h0], rfl⟩
    · cases h

theorem intBin_ok {op : BinOp} {k k' : IntKind} {x y : Int} {s : S} (t : TypeId) (h : intBin op k x k' y = some s) (r : Ren) : ∃ u, (binOp op t (.int k x) (.int k' y)).run P w = .ok u w ∧ VS r s u := by
  have rest : (bif k == k' then intOp op k x y else none) = some s → ∃ u, (binOp op t (.int k x) (.int k' y)).run P w = .ok u w ∧ VS r s u := fun hr => by
    clear h
    cases hk : (k == k') <;> simp only [hk, cond_true, cond_false] at hr
    · cases hr
    · obtain rfl : k = k' := by simpa using hk
      exact intOp_ok t hr r
  cases op <;> simp only [intBin] at h <;> (first | (exact rest h) | skip)
  · unfold shl at h
    cases hb : decide (y < 0) <;> simp only [hb, cond_true, cond_false] at h
    · cases h
      have h0 : ¬ y < 0 := by simpa using hb
      exact ⟨_, by simp [binOp, Op.shift, h0], rfl⟩
    · cases h
  · unfold shr at h
    cases hb : decide (y < 0) <;> simp only [hb, cond_true, cond_false] at h
    · cases h
      have h0 : ¬ y < 0 := by simpa using hb
      exact ⟨_, by simp [binOp, Op.shift, h0], rfl⟩
    · cases h

theorem ba_append (a b : List UInt8) : (⟨a.toArray⟩ : ByteArray) ++ ⟨b.toArray⟩ = ⟨(a ++ b).toArray⟩ := by
  apply ByteArray.ext
  simp
theorem ba_toList (a : List UInt8) : (⟨a.toArray⟩ : ByteArray).toList = a := by rw [ByteArray.toList_eq]
theorem ba_size (a : List UInt8) : (⟨a.toArray⟩ : ByteArray).size = a.length := by show a.toArray.size = _; simp
theorem strBin_ok {op : BinOp} {x y : List UInt8} {s : S} (t : TypeId) (h : strBin op x y = some s) (r : Ren) : ∃ u, (binOp op t (.string ⟨x.toArray⟩) (.string ⟨y.toArray⟩)).run P w = .ok u w ∧ VS r s u := by
  cases op <;> simp only [strBin] at h <;> (first | (cases h; done) | skip) <;> (try (cases h; first | exact ⟨_, (by simp only [binOp, Op.stringOp, ba_toList]; rfl), rfl⟩ | skip))
  unfold cat at h
  cases hb : Nat.ble (x.length + y.length) maxStr <;> simp only [hb, cond_true, cond_false] at h
  · cases h
  · cases h
    have h1 := Nat.le_of_ble_eq_true hb
    have h2 : ¬ ((x.length : Int) + (y.length : Int) > IntKind.i64.max) := by
      have : IntKind.i64.max = 9223372036854775807 := by decide
      rw [this]; unfold maxStr at h1; omega
    refine ⟨_, ?_, rfl⟩
    simp only [binOp, Op.stringOp, ba_append]
    rw [if_neg (by simpa [ba_size] using h2)]
    rfl

/-! what is not written out -/
theorem orO_some {α : Type} {x y : Option α} {z : α} (h : orO x y = some z) : x = some z ∨ y = some z := by
  cases x with
  | none => exact .inr h
  | some a => exact .inl h
theorem beq_dec (a b : List UInt8) : (a == b) = decide (a = b) := by rw [Bool.eq_iff_iff]; simp
theorem num_ok {r : Ren} {x : S} {p : IntKind × N} (h : x.num = some p) {u : Value} (hu : VS r x u) : u = .int p.1 (NV p.2) := by
  unfold S.num at h
  split at h <;> cases h <;> exact hu
theorem iv_ok {a : N} {p : Int × Int} (h : a.iv = some p) : p.1 ≤ NV a ∧ NV a ≤ p.2 := by
  unfold N.iv at h
  split at h
  · cases h; exact ⟨Int.le_refl _, Int.le_refl _⟩
  · exact Base.ok.iv _ _ h
theorem ltI_ok {a b : N} {r : Bool} (h : ltI a b = some r) : r = decide (NV a < NV b) := by
  obtain ⟨p, hp, h⟩ := ob_some h
  obtain ⟨q, hq, h⟩ := ob_some h
  have h1 := iv_ok hp
  have h2 := iv_ok hq
  by_cases c1 : p.2 < q.1
  · rw [decide_eq_true c1] at h
    cases h
    exact (decide_eq_true (by omega)).symm
  · rw [decide_eq_false c1] at h
    by_cases c2 : q.2 ≤ p.1
    · rw [decide_eq_true c2] at h
      cases h
      exact (decide_eq_false (by omega)).symm
    · rw [decide_eq_false c2] at h
      cases h
theorem eqI_ok {a b : N} {r : Bool} (h : eqI a b = some r) : r = decide (NV a = NV b) := by
  obtain ⟨p, hp, h⟩ := ob_some h
  obtain ⟨q, hq, h⟩ := ob_some h
  have h1 := iv_ok hp
  have h2 := iv_ok hq
  cases hc : (decide (p.2 < q.1) || decide (q.2 < p.1)) <;> rw [hc] at h <;> simp only [cond_true, cond_false] at h
  · cases hd : (decide (p = q) && decide (p.1 = p.2)) <;> rw [hd] at h <;> cases h
    simp only [Bool.and_eq_true, decide_eq_true_eq] at hd
    obtain ⟨rfl, hd⟩ := hd
    exact (decide_eq_true (by omega)).symm
  · cases h
    refine (decide_eq_false ?_).symm
    simp only [Bool.or_eq_true, decide_eq_true_eq] at hc
    omega
theorem beq_i {i j : Nat} (h : Nat.beq i j = true) : i = j := Nat.eq_of_beq_eq_true h
theorem ltX_ok {a b : N} {r : Bool} (h : ltX a b = some r) : r = decide (NV a < NV b) := by
  unfold ltX at h
  split at h
  · rename_i i j
    cases c1 : Nat.beq i j <;> rw [c1] at h <;> simp only [cond_true, cond_false] at h
    · cases c2 : hasPair Know.lt i j <;> rw [c2] at h <;> simp only [cond_true, cond_false] at h
      · cases c3 : hasPair Know.lt j i <;> rw [c3] at h <;> simp only [cond_true, cond_false] at h
        · exact ltI_ok h
        · cases h
          have := Base.ok.lt _ _ c3
          exact (decide_eq_false (by show ¬ Base.rho i < Base.rho j; omega)).symm
      · cases h
        exact (decide_eq_true (Base.ok.lt _ _ c2)).symm
    · cases h
      obtain rfl := beq_i c1
      simp
  · exact ltI_ok h
theorem eqX_ok {a b : N} {r : Bool} (h : eqX a b = some r) : r = decide (NV a = NV b) := by
  unfold eqX at h
  split at h
  · rename_i i j
    cases c1 : Nat.beq i j <;> rw [c1] at h <;> simp only [cond_true, cond_false] at h
    · cases c2 : (hasPair Know.ne i j || hasPair Know.ne j i || hasPair Know.lt i j || hasPair Know.lt j i) <;> rw [c2] at h <;> simp only [cond_true, cond_false] at h
      · exact eqI_ok h
      · cases h
        refine (decide_eq_false ?_).symm
        show ¬ Base.rho i = Base.rho j
        simp only [Bool.or_eq_true] at c2
        rcases c2 with ((c2 | c2) | c2) | c2
        · exact Base.ok.ne _ _ c2
        · exact fun e => Base.ok.ne _ _ c2 e.symm
        · have := Base.ok.lt _ _ c2; omega
        · have := Base.ok.lt _ _ c2; omega
    · cases h
      obtain rfl := beq_i c1
      simp
  · exact eqI_ok h
theorem notO_some {x : Option Bool} {b : Bool} (h : notO x = some b) : x = some (!b) := by
  obtain ⟨y, hy, h⟩ := ob_some h
  cases h
  simpa using hy
theorem cmpX_ok {op : BinOp} {a b : N} {r : Bool} (h : cmpX op a b = some r) (k : IntKind) : intOp op k (NV a) (NV b) = some (.bool r) := by
  unfold cmpX at h
  split at h
  · have := eqX_ok h; subst this; simp only [intOp]; congr 2
  · have := eqX_ok (notO_some h)
    simp only [intOp]
    congr 2
    cases r <;> simp at this ⊢ <;> exact this
  · have := ltX_ok h; subst this; rfl
  · have := ltX_ok h; subst this; rfl
  · have := ltX_ok (notO_some h)
    simp only [intOp]
    congr 2
    cases r <;> simp at this ⊢ <;> omega
  · have := ltX_ok (notO_some h)
    simp only [intOp]
    congr 2
    cases r <;> simp at this ⊢ <;> omega
  · cases h
theorem num2_some {α : Type} {x y : S} {f : N → N → Option α} {z : α} (h : num2 x y f = some z) : ∃ k a b, x.num = some (k, a) ∧ y.num = some (k, b) ∧ f a b = some z := by
  obtain ⟨p, hp, h⟩ := ob_some h
  obtain ⟨q, hq, h⟩ := ob_some h
  cases hk : (p.1 == q.1) <;> rw [hk] at h <;> simp only [cond_true, cond_false] at h
  · cases h
  have hk : p.1 = q.1 := by simpa using hk
  exact ⟨p.1, p.2, q.2, hp, by rw [hk]; exact hq, h⟩
theorem strX_app (sig : Nat → List UInt8) : ∀ a b : List Nat, strX sig (a ++ b) = strX sig a ++ strX sig b
  | [], _ => rfl
  | n :: a, b => by simp [strX, strX_app sig a b]
theorem strX_str (sig : Nat → List UInt8) : ∀ s : List UInt8, strX sig (s.map UInt8.toNat) = s
  | [] => rfl
  | c :: s => by
    have : Nat.blt c.toNat 256 = true := by
      show Nat.ble (c.toNat + 1) 256 = true
      exact Nat.ble_eq_true_of_le c.toNat_lt
    simp [strX, this, strX_str sig s]
theorem txt_ok {r : Ren} {x : S} {l : List Nat} (h : x.txt = some l) {u : Value} (hu : VS r x u) : u = .string ⟨(strX Base.sig l).toArray⟩ := by
  unfold S.txt at h
  split at h <;> cases h
  · rw [strX_str]; exact hu
  · exact hu
theorem sameX_ok : ∀ {a b : List Nat}, sameX a b = true → a = b
  | [], [], _ => rfl
  | a :: r, b :: s, h => by
    simp only [sameX, Bool.and_eq_true] at h
    rw [beq_i h.1, sameX_ok h.2]
  | [], _ :: _, h => by cases h
  | _ :: _, [], h => by cases h
theorem findSq_ok {a b : List Nat} {z : Bool} : ∀ {l : List (List Nat × List Nat × Bool)}, findSq a b l = some z → (a, b, z) ∈ l ∨ (b, a, z) ∈ l
  | [], h => by cases h
  | (p, q, r) :: t, h => by
    have h : (bif (sameX p a && sameX q b) || (sameX p b && sameX q a) then some r else findSq a b t) = some z := h
    cases hc : ((sameX p a && sameX q b) || (sameX p b && sameX q a)) <;> rw [hc] at h <;> simp only [cond_true, cond_false] at h
    · rcases findSq_ok h with h | h
      · exact .inl (by simp [h])
      · exact .inr (by simp [h])
    · cases h
      simp only [Bool.or_eq_true, Bool.and_eq_true] at hc
      rcases hc with ⟨h1, h2⟩ | ⟨h1, h2⟩
      · rw [sameX_ok h1, sameX_ok h2]; simp
      · rw [sameX_ok h1, sameX_ok h2]; simp
theorem eqS_ok {a b : List Nat} {z : Bool} (h : eqS a b = some z) : z = decide (strX Base.sig a = strX Base.sig b) := by
  unfold eqS at h
  cases hc : sameX a b <;> rw [hc] at h <;> simp only [cond_true, cond_false] at h
  · rcases findSq_ok h with h | h
    · exact (Base.ok.sq _ _ _ h).symm
    · rw [← Base.ok.sq _ _ _ h]
      exact decide_eq_decide.2 eq_comm
  · cases h
    rw [sameX_ok hc]
    simp
theorem mxX_ok : ∀ {l : List Nat} {m : Nat}, mxX l = some m → (strX Base.sig l).length ≤ m
  | [], m, h => by cases h; exact Nat.le_refl _
  | n :: r, m, h => by
    obtain ⟨k, hk, h⟩ := ob_some (show ob (mxX r) (fun m => bif Nat.blt n 256 then some (m + 1) else ob (nth Know.mx (n - 256)) fun k => some (m + k)) = some m from h)
    have ih := mxX_ok hk
    rw [strX, List.length_append]
    cases hc : Nat.blt n 256 <;> rw [hc] at h <;> simp only [cond_true, cond_false] at h
    · obtain ⟨q, hq, h⟩ := ob_some h
      cases h
      have := Base.ok.mx _ _ hq
      simp only [cond_false]
      omega
    · cases h
      simp
      omega

/-! == -/
theorem list_beq (a b : List UInt8) : ((⟨a.toArray⟩ : ByteArray).toList == (⟨b.toArray⟩ : ByteArray).toList) = (a == b) := by rw [ba_toList, ba_toList]
theorem eqInt_ok {r : Ren} {x y : S} {u v : Value} {b : Bool} (h : eqInt x y = some b) (hu : VS r x u) (hv : VS r y v) {t : TypeId} {k : IntKind} (ht : P.underlying t = some (.int k)) (d : Nat) : (Op.equalIn (d + 1) t u v).run P w = .ok b w := by
  have hh := orO_some h
  clear h
  rcases hh with h | h
  case inr =>
    obtain ⟨k1, a, c, e1, e2, h⟩ := num2_some h
    rw [num_ok e1 hu, num_ok e2 hv, eqX_ok h]
    exact run_equalIn_int w d t k1 k _ _ ht
  unfold eqInt0 at h
  split at h <;> try cases h
  rename_i k1 a k2 b'
  cases hk : (k1 == k2) <;> simp only [hk, cond_true, cond_false] at h <;> cases h
  obtain rfl : k1 = k2 := by simpa using hk
  cases hu; cases hv
  exact run_equalIn_int w d t k1 k a b' ht
theorem eqC_ok {i : Nat} {c : Int} {b : Bool} (h : eqC i c = some b) : decide (Base.rho i = c) = b := by
  obtain ⟨p, hp, h⟩ := ob_some h
  obtain ⟨h1, h2⟩ := Base.ok.iv _ _ hp
  cases hc : (decide (c < p.1) || decide (p.2 < c)) <;> rw [hc] at h <;> simp only [cond_true, cond_false] at h
  · cases hd : (decide (p.1 = c) && decide (p.2 = c)) <;> rw [hd] at h <;> simp only [cond_true, cond_false] at h
    · cases h
    · cases h
      simp at hd
      simp
      omega
  · cases h
    simp at hc
    simp
    omega
theorem anyE_cons (p : Nat × Int) (t : List (Nat × Int)) : anyE (p :: t) = Option.rec (ob (anyE t) fun b => bif b then some true else none) (fun b => bif b then some true else anyE t) (eqC p.1 p.2) := rfl
theorem anyE_ok : ∀ {l : List (Nat × Int)} {b : Bool}, anyE l = some b → (l.any fun p => decide (Base.rho p.1 = p.2)) = b
  | [], b, h => by cases h; rfl
  | p :: t, b, h => by
    rw [anyE_cons] at h
    rw [List.any_cons]
    cases hq : eqC p.1 p.2 with
    | none =>
      rw [hq] at h
      obtain ⟨c, hc, h⟩ := ob_some h
      cases c <;> simp only [cond_true, cond_false] at h <;> cases h
      rw [anyE_ok hc, Bool.or_true]
    | some c =>
      rw [hq] at h
      rw [eqC_ok hq]
      cases c
      · rw [Bool.false_or]; exact anyE_ok h
      · cases h; rfl
theorem allE_cons (p : Nat × Int) (t : List (Nat × Int)) : allE (p :: t) = Option.rec (ob (allE t) fun b => bif b then none else some false) (fun b => bif b then allE t else some false) (eqC p.1 p.2) := rfl
theorem allE_ok : ∀ {l : List (Nat × Int)} {b : Bool}, allE l = some b → (l.all fun p => decide (Base.rho p.1 = p.2)) = b
  | [], b, h => by cases h; rfl
  | p :: t, b, h => by
    rw [allE_cons] at h
    rw [List.all_cons]
    cases hq : eqC p.1 p.2 with
    | none =>
      rw [hq] at h
      obtain ⟨c, hc, h⟩ := ob_some h
      cases c <;> simp only [cond_true, cond_false] at h <;> cases h
      rw [allE_ok hc, Bool.and_false]
    | some c =>
      rw [hq] at h
      rw [eqC_ok hq]
      cases c
      · cases h; rfl
      · rw [Bool.true_and]; exact allE_ok h
theorem hasE_mem {p : Nat × Int} : ∀ {l : List (Nat × Int)}, hasE l p = true → p ∈ l
  | [], h => by cases h
  | q :: t, h => by
    have h : ((Nat.beq q.1 p.1 && decide (q.2 = p.2)) || hasE t p) = true := h
    simp only [Bool.or_eq_true, Bool.and_eq_true, decide_eq_true_eq] at h
    rcases h with ⟨h1, h2⟩ | h
    · rw [show p = q from (Prod.ext (Nat.eq_of_beq_eq_true h1) h2).symm]; exact List.mem_cons_self ..
    · exact List.mem_cons_of_mem _ (hasE_mem h)
theorem allK_ok {l : List (Nat × Int)} {b : Bool} (h : allK l = some b) : (l.all fun p => decide (Base.rho p.1 = p.2)) = b := by
  unfold allK at h
  cases he : allE l with
  | some c => rw [he] at h; cases h; exact allE_ok he
  | none =>
    rw [he] at h
    have h : (bif Know.cf.any (fun m => m.all (hasE l)) then some false else none) = some b := h
    cases hc : Know.cf.any (fun m => m.all (hasE l)) <;> rw [hc] at h <;> cases h
    obtain ⟨m, hm, hs⟩ := List.any_eq_true.1 hc
    have hf := Base.ok.cf m hm
    cases hl : (l.all fun p => decide (Base.rho p.1 = p.2)) with
    | false => rfl
    | true =>
      have : (m.all fun p => decide (Base.rho p.1 = p.2)) = true := List.all_eq_true.2 fun p hp => List.all_eq_true.1 hl p (hasE_mem (List.all_eq_true.1 hs p hp))
      rw [this] at hf
      cases hf
theorem isBool_ok {r : Ren} {x : S} {b : Bool} (h : x.isBool = some b) {u : Value} (hu : VS r x u) : u = .bool b := by
  unfold S.isBool at h
  split at h
  · cases h; exact hu
  · rw [← anyE_ok h]; exact hu
  · obtain ⟨c, hc, h⟩ := ob_some h
    cases h
    rw [← allK_ok hc]; exact hu
  · cases h
theorem sameE_eq : ∀ {a b : List (Nat × Int)}, sameE a b = true → a = b
  | [], [], _ => rfl
  | a :: r, b :: s, h => by
    simp only [sameE, Bool.and_eq_true, decide_eq_true_eq] at h
    obtain ⟨⟨h1, h2⟩, h3⟩ := h
    rw [sameE_eq h3, show a = b from Prod.ext (Nat.eq_of_beq_eq_true h1) h2]
  | [], _ :: _, h => by cases h
  | _ :: _, [], h => by cases h
theorem eqBool_some {r : Ren} {x y : S} {u v : Value} {b : Bool} (h : eqBool x y = some b) (hu : VS r x u) (hv : VS r y v) : ∃ p q : Bool, u = .bool p ∧ v = .bool q ∧ b = (p == q) := by
  rcases orO_some h with h | h
  · unfold eqBool0 at h
    split at h
    · cases h; cases hu; cases hv; exact ⟨_, _, rfl, rfl, rfl⟩
    · rename_i l m _
      cases hs : sameE l m <;> rw [hs] at h <;> cases h
      obtain rfl := sameE_eq hs
      cases hu; cases hv
      exact ⟨_, _, rfl, rfl, by simp⟩
    · rename_i l p m q _
      cases hs : sameE l m <;> rw [hs] at h <;> cases h
      obtain rfl := sameE_eq hs
      cases hu; cases hv
      refine ⟨_, _, rfl, rfl, ?_⟩
      cases (l.all fun p => decide (Base.rho p.1 = p.2)) <;> cases p <;> cases q <;> rfl
    · cases h
  · obtain ⟨p, hp, h⟩ := ob_some h
    obtain ⟨q, hq, h⟩ := ob_some h
    cases h
    exact ⟨p, q, isBool_ok hp hu, isBool_ok hq hv, rfl⟩
theorem eqBool_ok {r : Ren} {x y : S} {u v : Value} {b : Bool} (h : eqBool x y = some b) (hu : VS r x u) (hv : VS r y v) {t : TypeId} (ht : P.underlying t = some .bool) (d : Nat) : (Op.equalIn (d + 1) t u v).run P w = .ok b w := by
  obtain ⟨p, q, rfl, rfl, rfl⟩ := eqBool_some h hu hv
  exact run_equalIn_bool' w d t _ _ ht
theorem eqStr_ok {r : Ren} {x y : S} {u v : Value} {b : Bool} (h : eqStr x y = some b) (hu : VS r x u) (hv : VS r y v) {t : TypeId} (ht : P.underlying t = some .string) (d : Nat) : (Op.equalIn (d + 1) t u v).run P w = .ok b w := by
  have hh := orO_some h
  clear h
  rcases hh with h | h
  case inr =>
    obtain ⟨a, ha, h⟩ := ob_some h
    obtain ⟨c, hc, h⟩ := ob_some h
    rw [txt_ok ha hu, txt_ok hc hv, eqS_ok h, run_equalIn_string w d t _ _ ht, list_beq]
    rw [beq_dec]
  unfold eqStr0 at h
  split at h <;> cases h
  cases hu; cases hv
  rw [run_equalIn_string w d t _ _ ht, list_beq]
theorem eqNil_some {p q : Option Bool} {b : Bool} (h : eqNil p q = some b) : ∃ x y, p = some x ∧ q = some y ∧ (x || y) = true ∧ b = (x && y) := by
  unfold eqNil at h
  obtain ⟨x, hx, h⟩ := ob_some h
  obtain ⟨y, hy, h⟩ := ob_some h
  cases hk : (x || y) <;> simp only [hk, cond_true, cond_false] at h <;> cases h
  exact ⟨x, y, hx, hy, hk, rfl⟩
theorem nilPtr_ok {r : Ren} {x : S} {b : Bool} (h : nilPtr x = some b) {u : Value} (hu : VS r x u) : (b = true ∧ u = .pointer none) ∨ (b = false ∧ ∃ a, u = .pointer (some a)) := by
  unfold nilPtr at h
  split at h <;> cases h
  · exact .inl ⟨rfl, hu⟩
  · exact .inr ⟨rfl, _, hu.2⟩
theorem nilSl_ok {r : Ren} {x : S} {b : Bool} (h : nilSl x = some b) {u : Value} (hu : VS r x u) : (b = true ∧ u = .slice none 0 0) ∨ (b = false ∧ ∃ a n c, u = .slice (some a) n c) := by
  unfold nilSl at h
  split at h <;> cases h
  · exact .inl ⟨rfl, hu⟩
  · rename_i l o n z c
    cases c with
    | none => exact .inr ⟨rfl, _, _, _, hu.2.2.2⟩
    | some c => exact .inr ⟨rfl, _, _, _, hu.2.2.2⟩
  · obtain ⟨a, c, e⟩ := hu
    exact .inr ⟨rfl, _, _, _, e⟩
theorem nilIf_ok {r : Ren} {x : S} {b : Bool} (h : nilIf x = some b) {u : Value} (hu : VS r x u) : (b = true ∧ u = .nilIface) ∨ (b = false ∧ ∃ t y, u = .iface t y) := by
  unfold nilIf at h
  split at h <;> cases h
  · exact .inl ⟨rfl, hu⟩
  · exact .inr ⟨rfl, hu⟩
theorem eqPtr_ok {r : Ren} {x y : S} {u v : Value} {b : Bool} (h : eqNil (nilPtr x) (nilPtr y) = some b) (hu : VS r x u) (hv : VS r y v) {t e : TypeId} (ht : P.underlying t = some (.pointer e)) (d : Nat) : (Op.equalIn (d + 1) t u v).run P w = .ok b w := by
  obtain ⟨p, q, hp, hq, ho, rfl⟩ := eqNil_some h
  rcases nilPtr_ok hp hu with ⟨rfl, rfl⟩ | ⟨rfl, a, rfl⟩ <;> rcases nilPtr_ok hq hv with ⟨rfl, rfl⟩ | ⟨rfl, c, rfl⟩ <;> simp [Op.equalIn, run_underlying ht] at ho ⊢
theorem eqSl_ok {r : Ren} {x y : S} {u v : Value} {b : Bool} (h : eqNil (nilSl x) (nilSl y) = some b) (hu : VS r x u) (hv : VS r y v) {t e : TypeId} (ht : P.underlying t = some (.slice e)) (d : Nat) : (Op.equalIn (d + 1) t u v).run P w = .ok b w := by
  obtain ⟨p, q, hp, hq, ho, rfl⟩ := eqNil_some h
  rcases nilSl_ok hp hu with ⟨rfl, rfl⟩ | ⟨rfl, a, _, _, rfl⟩ <;> rcases nilSl_ok hq hv with ⟨rfl, rfl⟩ | ⟨rfl, c, _, _, rfl⟩ <;> simp [Op.equalIn, run_underlying ht] at ho ⊢
theorem eqIf_ok {r : Ren} {x y : S} {u v : Value} {b : Bool} (h : eqNil (nilIf x) (nilIf y) = some b) (hu : VS r x u) (hv : VS r y v) {t : TypeId} {m : Array (String × TypeId)} (ht : P.underlying t = some (.interface m)) (d : Nat) : (Op.equalIn (d + 1) t u v).run P w = .ok b w := by
  obtain ⟨p, q, hp, hq, ho, rfl⟩ := eqNil_some h
  rcases nilIf_ok hp hu with ⟨rfl, rfl⟩ | ⟨rfl, a, _, rfl⟩ <;> rcases nilIf_ok hq hv with ⟨rfl, rfl⟩ | ⟨rfl, c, _, rfl⟩ <;> simp [Op.equalIn, run_underlying ht] at ho ⊢

theorem part_ok {ty : Tys} (hty : TyOk P ty) {t : TypeId} {T : Ty} (ht : ty t = some T) {r : Ren} {xs : List S} {us : List Value} (hx : All2 (VS r) xs us) {o : Nat} {c : List S} (hc : ext xs o T.size = some c) {x : A} (hm : T.mk' c = some x) :
    ∃ u, (part t us.toArray o).run P w = .ok u w ∧ VA r x u ∧ x.cells = c := by
  obtain ⟨i, d, z, hi, hd, hz, h1, h2, h3, h4⟩ := hty t T ht
  obtain ⟨hlen, rfl⟩ := ext_eq hc
  have hsz : (sizeOf t).run P w = .ok T.size w := by simp [sizeOf, typeInfo, hi, h2]
  have ha : (isAgg t).run P w = .ok T.d.agg w := by
    rw [h1]
    unfold isAgg
    cases d <;> simp [run_underlying hd, dOf, D.agg]
  unfold Ty.mk' at hm
  cases hg : T.d.agg <;> simp only [hg, cond_true, cond_false] at hm
  · split at hm <;> cases hm
    rename_i y hy
    have hn : nth xs o = some y := by
      rw [nth_eq]
      have := congrArg (fun l => l[0]?) hy
      simp only [List.getElem?_cons_zero] at this
      by_cases h0 : T.size = 0
      · rw [h0] at hy; simp at hy
      · simpa [List.getElem?_take, List.getElem?_drop, Nat.pos_of_ne_zero h0] using this
    obtain ⟨u, hu, hv⟩ := All2.nth hx hn
    exact ⟨u, by simp [part, ha, hg, hu], hv, hy.symm⟩
  · cases hm
    refine ⟨.agg ((us.drop o).take T.size).toArray, ?_, ⟨_, rfl, (hx.drop o).take _⟩, rfl⟩
    simp [part, ha, hg, hsz]

theorem eqIn_succ (ty : Tys) (n : Nat) (t : TypeId) (xs ys : List S) : eqIn ty (n + 1) t xs ys = ob (ty t) fun T => eqD ty (eqIn ty n) T.cmp T.d xs ys := rfl
theorem one1_some {α : Type} {f : S → S → Option α} {xs ys : List S} {b : α} (h : one1 f xs ys = some b) : ∃ x y, xs = [x] ∧ ys = [y] ∧ f x y = some b := by
  unfold one1 at h
  split at h
  · exact ⟨_, _, rfl, rfl, h⟩
  · cases h
theorem va_one {r : Ren} {x : A} {s : S} (hc : x.cells = [s]) {u : Value} (hu : VA r x u) {T : Ty} (hm : T.mk' x.cells = some x) (ha : T.d.agg = false) : VS r s u := by
  cases x with
  | s y => simp [A.cells] at hc; subst hc; exact hu
  | g l => unfold Ty.mk' at hm; simp only [ha, cond_false] at hm; split at hm <;> cases hm
theorem va_agg {r : Ren} {x : A} {u : Value} (hu : VA r x u) {T : Ty} (hm : T.mk' x.cells = some x) (ha : T.d.agg = true) : ∃ us : List Value, u = .agg us.toArray ∧ All2 (VS r) x.cells us := by
  cases x with
  | s y => unfold Ty.mk' at hm; simp only [ha, cond_true] at hm; cases hm
  | g l => exact hu

theorem eqIn_mk {ty : Tys} {n : Nat} {t : TypeId} {xs ys : List S} {b : Q} (h : eqIn ty n t xs ys = some b) {T : Ty} (ht : ty t = some T) : ∃ x y, T.mk' xs = some x ∧ T.mk' ys = some y := by
  cases n with
  | zero => cases h
  | succ n =>
    rw [eqIn_succ, ht] at h
    simp only [ob_some'] at h
    unfold Ty.mk'
    cases hd : T.d <;> simp only [hd, eqD] at h <;> (try cases h)
    all_goals (first
      | (obtain ⟨x, y, rfl, rfl, _⟩ := one1_some h; exact ⟨_, _, rfl, rfl⟩)
      | (obtain ⟨_, h, _⟩ := ob_some h; obtain ⟨x, y, rfl, rfl, _⟩ := one1_some h; exact ⟨_, _, rfl, rfl⟩)
      | exact ⟨_, _, rfl, rfl⟩)

/-- what == comes to -/
def Q.val (q : Q) : Bool := match q with | .b x => x | .c l => l.all fun p => decide (Base.rho p.1 = p.2)
def EqOk (P : Program) (ty : Tys) (w : World) (f : TypeId → List S → List S → Option Q) (d : Nat) : Prop :=
  ∀ (r : Ren) t T x y u v b, ty t = some T → T.mk' x.cells = some x → T.mk' y.cells = some y → VA r x u → VA r y v → f t x.cells y.cells = some b → (Op.equalIn d t u v).run P w = .ok b.val w

theorem Q.and_val (p q : Q) : (p.and q).val = (p.val && q.val) := by
  cases p with
  | b x => cases x <;> cases q <;> simp [Q.and, Q.val]
  | c l => cases q with
    | b y => cases y <;> simp [Q.and, Q.val]
    | c m => simp [Q.and, Q.val, List.all_append]
theorem eqNext_some {r : Option Q} {k : Option Q} {q : Q} (h : eqNext r k = some q) : ∃ p, r = some p ∧ ((p = .b false ∧ q = .b false) ∨ ∃ q', k = some q' ∧ q = p.and q') := by
  obtain ⟨p, hp, h⟩ := ob_some h
  refine ⟨p, hp, ?_⟩
  split at h
  · cases h; exact .inl ⟨rfl, rfl⟩
  · obtain ⟨q', hq, h⟩ := ob_some h
    cases h
    exact .inr ⟨q', hq, rfl⟩
theorem find2_mem {i j d : Nat} : ∀ {l : List (Nat × Nat × Nat)}, find2 i j l = some d → (i, j, d) ∈ l
  | [], h => by cases h
  | p :: t, h => by
    have h : (bif Nat.beq p.1 i && Nat.beq p.2.1 j then some p.2.2 else find2 i j t) = some d := h
    cases hc : (Nat.beq p.1 i && Nat.beq p.2.1 j) <;> rw [hc] at h <;> simp only [cond_true, cond_false] at h
    · exact List.mem_cons_of_mem _ (find2_mem h)
    · cases h
      simp only [Bool.and_eq_true] at hc
      rw [← Nat.eq_of_beq_eq_true hc.1, ← Nat.eq_of_beq_eq_true hc.2]
      exact List.mem_cons_self ..
theorem findAd_mem {i k : Nat} {c : Int} : ∀ {l : List (Nat × Int × Nat)}, findAd i c l = some k → (i, c, k) ∈ l
  | [], h => by cases h
  | p :: t, h => by
    have h : (bif Nat.beq p.1 i && decide (p.2.1 = c) then some p.2.2 else findAd i c t) = some k := h
    cases hc : (Nat.beq p.1 i && decide (p.2.1 = c)) <;> rw [hc] at h <;> simp only [cond_true, cond_false] at h
    · exact List.mem_cons_of_mem _ (findAd_mem h)
    · cases h
      simp only [Bool.and_eq_true, decide_eq_true_eq] at hc
      rw [← Nat.eq_of_beq_eq_true hc.1, ← hc.2]
      exact List.mem_cons_self ..
theorem eqv_N {a b : N} (h : a.eqv b = true) : a = b := by
  cases a <;> cases b <;> simp [N.eqv] at h
  · rw [h]
  · rw [h]
theorem eqo_N {a b : Option N} (h : N.eqo a b = true) : a = b := by
  cases a <;> cases b <;> simp [N.eqo] at h
  · rfl
  · rw [eqv_N h]
theorem findSx_mem {a b : List Nat} {m : List (Nat × Int)} : ∀ {l : List (List Nat × List Nat × List (Nat × Int))}, findSx a b l = some m → (a, b, m) ∈ l
  | [], h => by cases h
  | (p, q, r) :: t, h => by
    have h : (bif sameX p a && sameX q b then some r else findSx a b t) = some m := h
    cases hc : (sameX p a && sameX q b) <;> rw [hc] at h <;> simp only [cond_true, cond_false] at h
    · exact List.mem_cons_of_mem _ (findSx_mem h)
    · cases h
      simp only [Bool.and_eq_true] at hc
      rw [sameX_ok hc.1, sameX_ok hc.2]
      exact List.mem_cons_self ..
theorem findCt_mem {l : List Nat} {a : N} {b : Option N} {m : List Nat} : ∀ {t : List (List Nat × N × Option N × List Nat)}, findCt l a b t = some m → (l, a, b, m) ∈ t
  | [], h => by cases h
  | (p, c, e, r) :: t, h => by
    have h : (bif sameX p l && c.eqv a && N.eqo e b then some r else findCt l a b t) = some m := h
    cases hc : (sameX p l && c.eqv a && N.eqo e b) <;> rw [hc] at h <;> simp only [cond_true, cond_false] at h
    · exact List.mem_cons_of_mem _ (findCt_mem h)
    · cases h
      simp only [Bool.and_eq_true] at hc
      rw [sameX_ok hc.1.1, eqv_N hc.1.2, eqo_N hc.2]
      exact List.mem_cons_self ..
theorem eqIntQ_ok {r : Ren} {x y : S} {u v : Value} {q : Q} (h : eqIntQ x y = some q) (hu : VS r x u) (hv : VS r y v) {t : TypeId} {k : IntKind} (ht : P.underlying t = some (.int k)) (d : Nat) : (Op.equalIn (d + 1) t u v).run P w = .ok q.val w := by
  have key : ∀ {i : Nat} {c : Int} {q : Q}, (Option.rec (some (atomQ i c)) (fun b => some (.b b)) (eqC i c) : Option Q) = some q → q.val = decide (Base.rho i = c) := fun {i c q} h => by
    cases he : eqC i c with
    | none => rw [he] at h; cases h; simp [Q.val, atomQ]
    | some b => rw [he] at h; cases h; exact (eqC_ok he).symm
  unfold eqIntQ at h
  split at h
  · rename_i k1 i k2 c
    cases hk : (k1 == k2) <;> rw [hk] at h <;> simp only [cond_true, cond_false] at h
    · cases h
    obtain rfl : k1 = k2 := by simpa using hk
    rw [key h]
    cases hu; cases hv
    rw [run_equalIn_int w d t k1 k _ _ ht]
    rfl
  · rename_i k1 c k2 i
    cases hk : (k2 == k1) <;> rw [hk] at h <;> simp only [cond_true, cond_false] at h
    · cases h
    obtain rfl : k2 = k1 := by simpa using hk
    rw [key h]
    cases hu; cases hv
    rw [run_equalIn_int w d t k2 k _ _ ht]
    congr 1
    show (c == Base.rho i) = _
    by_cases e : Base.rho i = c
    · simp [e]
    · have : ¬ c = Base.rho i := fun h => e h.symm
      simp [e, this]
  · rename_i k1 i k2 j
    cases hk : (k1 == k2) <;> rw [hk] at h <;> simp only [cond_true, cond_false] at h
    · cases h
    obtain rfl : k1 = k2 := by simpa using hk
    cases hu; cases hv
    rw [run_equalIn_int w d t k1 k _ _ ht]
    rcases orO_some h with h | h
    · obtain ⟨b, hb, h⟩ := ob_some h
      cases h
      rw [show Q.val (.b b) = b from rfl, eqX_ok hb]
      rfl
    · obtain ⟨m, hm, h⟩ := ob_some h
      cases h
      have := Base.ok.df _ _ _ (find2_mem hm)
      congr 1
      show (Base.rho i == Base.rho j) = _
      by_cases e : Base.rho i = Base.rho j
      · simp [Q.val, atomQ, e, this.1 e]
      · have : ¬ Base.rho m = 0 := fun h => e (this.2 h)
        simp [Q.val, atomQ, e, this]
  · obtain ⟨b, hb, h⟩ := ob_some h
    cases h
    exact eqInt_ok hb hu hv ht d
theorem boolQ_ok {l : List (Nat × Int)} {b : Bool} {q : Q} (h : boolQ l b = some q) : q.val = ((l.any fun p => decide (Base.rho p.1 = p.2)) == b) := by
  unfold boolQ at h
  split at h
  · rename_i i c
    cases he : eqC i c with
    | some v =>
      rw [he] at h
      cases h
      simp [Q.val, eqC_ok he]
    | none =>
      rw [he] at h
      have h : (bif b then some (atomQ i c) else ob (nth Know.iv i) fun p => bif decide (p = (0, 1)) && decide (c = 1) then some (atomQ i 0) else none) = some q := h
      cases b <;> simp only [cond_true, cond_false] at h
      · obtain ⟨p, hp, h⟩ := ob_some h
        cases hc : (decide (p = (0, 1)) && decide (c = 1)) <;> rw [hc] at h <;> simp only [cond_true, cond_false] at h <;> cases h
        simp only [Bool.and_eq_true, decide_eq_true_eq] at hc
        obtain ⟨rfl, rfl⟩ := hc
        have := Base.ok.iv _ _ hp
        simp only at this
        have h01 : Base.rho i = 0 ∨ Base.rho i = 1 := by omega
        rcases h01 with e | e <;> simp [Q.val, atomQ, e]
      · cases h
        simp [Q.val, atomQ]
  · cases h
theorem is01_ok {i : Nat} (h : is01 i = true) : Base.rho i = 0 ∨ Base.rho i = 1 := by
  unfold is01 at h
  cases hp : nth Know.iv i with
  | none => rw [hp] at h; cases h
  | some p =>
    rw [hp] at h
    simp only [decide_eq_true_eq] at h
    subst h
    have := Base.ok.iv _ _ hp
    simp only at this
    omega
theorem eqBoolQ_ok {r : Ren} {x y : S} {u v : Value} {q : Q} (h : eqBoolQ x y = some q) (hu : VS r x u) (hv : VS r y v) {t : TypeId} (ht : P.underlying t = some .bool) (d : Nat) : (Op.equalIn (d + 1) t u v).run P w = .ok q.val w := by
  have old : ∀ {x y : S} {u v : Value} {q : Q}, VS r x u → VS r y v → (ob (eqBool x y) fun b => some (Q.b b)) = some q → (Op.equalIn (d + 1) t u v).run P w = .ok q.val w := fun hu hv h => by
    obtain ⟨b, hb, h⟩ := ob_some h
    cases h
    exact eqBool_ok hb hu hv ht d
  unfold eqBoolQ at h
  split at h
  · rename_i l b
    rcases orO_some h with h | h
    · rw [boolQ_ok h]
      cases hu; cases hv
      rw [run_equalIn_bool' w d t _ _ ht]
    · exact old hu hv h
  · rename_i b l
    rcases orO_some h with h | h
    · rw [boolQ_ok h]
      cases hu; cases hv
      rw [run_equalIn_bool' w d t _ _ ht]
      congr 1
      exact Bool.beq_comm ..
    · exact old hu hv h
  · rename_i l m
    have h0 := orO_some h
    clear h
    rcases h0 with h | h
    · exact old hu hv h
    · unfold dfB at h
      split at h
      · rename_i i c j e
        cases hc : (decide (c = 1) && decide (e = 1) && is01 i && is01 j) <;> rw [hc] at h <;> simp only [cond_true, cond_false] at h
        · cases h
        simp only [Bool.and_eq_true, decide_eq_true_eq] at hc
        obtain ⟨⟨⟨rfl, rfl⟩, h1⟩, h2⟩ := hc
        obtain ⟨n, hn, h⟩ := ob_some h
        cases h
        have hd := Base.ok.df _ _ _ (find2_mem hn)
        have a1 := is01_ok h1
        have a2 := is01_ok h2
        cases hu; cases hv
        rw [run_equalIn_bool' w d t _ _ ht]
        congr 1
        rcases a1 with e1 | e1 <;> rcases a2 with e2 | e2 <;> rw [e1, e2] at hd <;> simp [Q.val, atomQ, e1, e2] at hd ⊢ <;> simp [hd]
      · cases h
  · exact old hu hv h
theorem eqFields_ok {ty : Tys} (hty : TyOk P ty) {n d : Nat} (IH : EqOk P ty w (eqIn ty n) d) {r : Ren} {xs ys : List S} {us vs : List Value} (hx : All2 (VS r) xs us) (hy : All2 (VS r) ys vs) :
    ∀ (F : List Field) (q : Q), (∀ f ∈ F, f.name ≠ "_") → eqFields ty (eqIn ty n) xs ys (F.map fun f => (f.offset, f.type)) = some q → (Op.eqFields d us.toArray vs.toArray F).run P w = .ok q.val w
  | [], b, _, h => by cases h; rfl
  | f :: F, b, hn, h => by
    simp only [List.map_cons, eqFields] at h
    obtain ⟨T, hT, h⟩ := ob_some h
    obtain ⟨x, hxe, h⟩ := ob_some h
    obtain ⟨y, hye, h⟩ := ob_some h
    obtain ⟨c, hc, h⟩ := eqNext_some h
    obtain ⟨x', y', hmx, hmy⟩ := eqIn_mk hc hT
    obtain ⟨u, hu, hu', ex⟩ := part_ok (w := w) hty hT hx hxe hmx
    obtain ⟨v, hv, hv', ey⟩ := part_ok (w := w) hty hT hy hye hmy
    have hr := IH r f.type T x' y' u v c hT (by rw [ex]; exact hmx) (by rw [ey]; exact hmy) hu' hv' (by rw [ex, ey]; exact hc)
    simp only [Op.eqFields, hn f (by simp), ne_eq, not_false_eq_true, if_true, Sem.run_bind, hu, hv, hr, Result.andThen_ok]
    rcases h with ⟨rfl, rfl⟩ | ⟨q', hq', rfl⟩
    · simp [Q.val]
    · rw [Q.and_val]
      have hrest := eqFields_ok hty IH hx hy F q' (fun g hg => hn g (by simp [hg])) hq'
      cases c.val
      · simp
      · simpa using hrest
theorem eqElems_ok {ty : Tys} (hty : TyOk P ty) {n d : Nat} (IH : EqOk P ty w (eqIn ty n) d) {r : Ren} {xs ys : List S} {us vs : List Value} (hx : All2 (VS r) xs us) (hy : All2 (VS r) ys vs) {e : TypeId} {E : Ty} (hE : ty e = some E) :
    ∀ (k i : Nat) (q : Q), eqElems (eqIn ty n) e E.size xs ys k i = some q → (Op.eqItems d e E.size us.toArray vs.toArray (List.range' i k)).run P w = .ok q.val w
  | 0, _, b, h => by cases h; rfl
  | k + 1, i, b, h => by
    simp only [eqElems] at h
    obtain ⟨x, hxe, h⟩ := ob_some h
    obtain ⟨y, hye, h⟩ := ob_some h
    obtain ⟨c, hc, h⟩ := eqNext_some h
    obtain ⟨x', y', hmx, hmy⟩ := eqIn_mk hc hE
    obtain ⟨u, hu, hu', ex⟩ := part_ok (w := w) hty hE hx hxe hmx
    obtain ⟨v, hv, hv', ey⟩ := part_ok (w := w) hty hE hy hye hmy
    have hr := IH r e E x' y' u v c hE (by rw [ex]; exact hmx) (by rw [ey]; exact hmy) hu' hv' (by rw [ex, ey]; exact hc)
    simp only [List.range'_succ, Op.eqItems, Sem.run_bind, hu, hv, hr, Result.andThen_ok]
    rcases h with ⟨rfl, rfl⟩ | ⟨q', hq', rfl⟩
    · simp [Q.val]
    · rw [Q.and_val]
      have hrest := eqElems_ok hty IH hx hy hE k (i + 1) q' hq'
      cases c.val
      · simp
      · simpa using hrest
theorem eqIn_ok {ty : Tys} (hty : TyOk P ty) : ∀ (n k : Nat), EqOk P ty w (eqIn ty n) (k + n)
  | 0, _ => fun r t T x y u v b _ _ _ _ _ h => by cases h
  | n + 1, k => fun r t T x y u v b hT hmx hmy hu hv h => by
    rw [eqIn_succ, hT] at h
    simp only [ob_some'] at h
    obtain ⟨i, d, z, hi, hd, hz, h1, h2, h3, h4, _⟩ := hty t T hT
    have ih := eqIn_ok hty n k
    rw [show k + (n + 1) = (k + n) + 1 from rfl]
    cases hD : T.d <;> simp only [hD, eqD] at h <;> (try (cases h; done))
    · obtain ⟨a, c, e1, e2, h⟩ := one1_some h
      rw [hD] at h1
      exact eqBoolQ_ok h (va_one e1 hu hmx (by simp [hD, D.agg])) (va_one e2 hv hmy (by simp [hD, D.agg])) (hd.trans (by rw [dOf_one h1.symm])) _
    · obtain ⟨a, c, e1, e2, h⟩ := one1_some h
      rw [hD] at h1
      exact eqIntQ_ok h (va_one e1 hu hmx (by simp [hD, D.agg])) (va_one e2 hv hmy (by simp [hD, D.agg])) (hd.trans (by rw [dOf_int h1.symm])) _
    · obtain ⟨b', hb', h⟩ := ob_some h
      cases h
      obtain ⟨a, c, e1, e2, h⟩ := one1_some hb'
      rw [hD] at h1
      exact eqStr_ok h (va_one e1 hu hmx (by simp [hD, D.agg])) (va_one e2 hv hmy (by simp [hD, D.agg])) (hd.trans (by rw [dOf_str h1.symm])) _
    · rename_i m e
      obtain ⟨E, hE, h⟩ := ob_some h
      rw [hD] at h1
      obtain ⟨us, rfl, hus⟩ := va_agg hu hmx (by simp [hD, D.agg])
      obtain ⟨vs, rfl, hvs⟩ := va_agg hv hmy (by simp [hD, D.agg])
      obtain ⟨j, d', z', hj, hd', hz', g1, g2, _⟩ := hty e E hE
      have hce : P.cellsOf e = E.size := by simp [Program.cellsOf, hj, g2]
      rw [run_equalIn_array w _ _ _ (hd.trans (by rw [dOf_arr h1.symm])) hj, hce, List.range_eq_range']
      exact eqElems_ok hty ih hus hvs hE m 0 b h
    · rename_i fs
      cases hcmp : T.cmp <;> rw [hcmp] at h <;> simp only [cond_true, cond_false] at h
      · cases h
      rw [hD] at h1
      obtain ⟨F, rfl, hfs⟩ := dOf_st h1.symm
      rw [hcmp] at h4
      have h4 := h4.symm
      simp only [cmpOf, Bool.and_eq_true] at h4
      obtain ⟨us, rfl, hus⟩ := va_agg hu hmx (by simp [hD, D.agg])
      obtain ⟨vs, rfl, hvs⟩ := va_agg hv hmy (by simp [hD, D.agg])
      have hf : P.fieldsOf t = F := by simp [Program.fieldsOf, hd]
      rw [run_equalIn_struct w _ t _ _ (by rw [hf]; exact hd) (by simpa using h4.1.2), hf]
      rw [hfs] at h
      refine eqFields_ok hty ih hus hvs F.toList b ?_ h
      intro f hfm
      have := List.all_eq_true.1 h4.1.1 f hfm
      simpa using this

theorem A.k_int {x : A} {k : IntKind} {n : Int} (h : x.k = .int k n) : x = .s (.int k n) := by
  cases x with
  | s x => cases x <;> simp [A.k, S.k] at h <;> simp [h]
  | g l => simp [A.k] at h
theorem A.k_str {x : A} {s : List UInt8} (h : x.k = .str s) : x = .s (.str s) := by
  cases x with
  | s x => cases x <;> simp [A.k, S.k] at h <;> simp [h]
  | g l => simp [A.k] at h
/-- == or != with its guard -/
def guarded (op : BinOp) (t : TypeId) (x y : Operand) (u v : Value) : Sem Value := do eqGuard op t x y u v; binOp op t u v
theorem eq_run {op : BinOp} {t : TypeId} {x y : Operand} {u v : Value} {b : Bool} (hop : op = .eql ∨ op = .neq) (hg : (eqGuard op t x y u v).run P w = .ok () w) (he : (Op.equalIn 10000 t u v).run P w = .ok b w)
    (hb : ∀ o, o = .eql ∨ o = .neq → binOp o t u v = if o = .eql then (do pure (.bool (← Op.equal t u v))) else (do pure (.bool (!(← Op.equal t u v))))) : (guarded op t x y u v).run P w = .ok (.bool (if op = .eql then b else !b)) w := by
  simp only [guarded, Sem.run_bind, hg, Result.andThen_ok]
  rw [hb op hop]
  rcases hop with rfl | rfl
  · simp [Op.equal, Op.maxDepth, he]
  · simp [Op.equal, Op.maxDepth, he]
theorem eqCell_ok {ty : Tys} (hty : TyOk P ty) {r : Ren} {op : BinOp} (hop : op = .eql ∨ op = .neq) {t : TypeId} {T : Ty} (hT : ty t = some T) {x y : Operand} {p q : S} {u v : Value} (hu : VS r p u) (hv : VS r q v) {b : Bool} {c : Bool}
    (h : eqCell c T.d p q = some b) (hc : c = true → isConst x = true ∨ isConst y = true) : (guarded op t x y u v).run P w = .ok (.bool (if op = .eql then b else !b)) w := by
  obtain ⟨i, d, z, hi, hd, hz, h1, h2, h3, h4, _⟩ := hty t T hT
  cases hD : T.d <;> simp only [hD, eqCell] at h <;> (try (cases h; done)) <;> rw [hD] at h1
  · have he := eqBool_ok (w := w) h hu hv (hd.trans (by rw [dOf_one h1.symm])) 9999
    obtain ⟨p, q, rfl, rfl, rfl⟩ := eqBool_some h hu hv
    exact eq_run hop (by rw [eqGuard_at_bool]; rfl) he (fun o ho => by rcases ho with rfl | rfl <;> rfl)
  · have he := eqPtr_ok (w := w) h hu hv (hd.trans (by rw [dOf_ptr h1.symm])) 9999
    obtain ⟨m, n, hm, hn, ho, _⟩ := eqNil_some h
    rcases nilPtr_ok hm hu with ⟨rfl, rfl⟩ | ⟨rfl, a, rfl⟩ <;> rcases nilPtr_ok hn hv with ⟨rfl, rfl⟩ | ⟨rfl, a', rfl⟩ <;>
      first | (simp at ho; done) | exact eq_run hop (by rw [eqGuard_at_pointer]; rfl) he (fun o ho => by rcases ho with rfl | rfl <;> rfl)
  · have he := eqSl_ok (w := w) h hu hv (hd.trans (by rw [dOf_sl h1.symm])) 9999
    obtain ⟨m, n, hm, hn, ho, _⟩ := eqNil_some h
    rcases nilSl_ok hm hu with ⟨rfl, rfl⟩ | ⟨rfl, a, _, _, rfl⟩ <;> rcases nilSl_ok hn hv with ⟨rfl, rfl⟩ | ⟨rfl, a', _, _, rfl⟩ <;>
      first | (simp at ho; done) | exact eq_run hop (by rw [eqGuard_at_slice]; rfl) he (fun o ho => by rcases ho with rfl | rfl <;> rfl)
  · cases hcc : c <;> rw [hcc] at h <;> simp only [cond_true, cond_false] at h
    · cases h
    obtain ⟨M, hM⟩ := dOf_ifc h1.symm
    have he := eqIf_ok (w := w) h hu hv (hd.trans (by rw [hM])) 9999
    obtain ⟨m, n, hm, hn, ho, _⟩ := eqNil_some h
    rcases nilIf_ok hm hu with ⟨rfl, rfl⟩ | ⟨rfl, a, _, rfl⟩ <;> rcases nilIf_ok hn hv with ⟨rfl, rfl⟩ | ⟨rfl, a', _, rfl⟩
    · rcases hc hcc with hx | hy
      · cases x <;> simp [isConst] at hx
        exact eq_run hop (by rw [eqGuard_nil_constL]; rfl) he (fun o ho => by rcases ho with rfl | rfl <;> rfl)
      · cases y <;> simp [isConst] at hy
        exact eq_run hop (by rw [eqGuard_nil_constR]; rfl) he (fun o ho => by rcases ho with rfl | rfl <;> rfl)
    · exact eq_run hop (by rw [eqGuard_nil_iface]; rfl) he (fun o ho => by rcases ho with rfl | rfl <;> rfl)
    · exact eq_run hop (by rw [eqGuard_at_iface]; rfl) he (fun o ho => by rcases ho with rfl | rfl <;> rfl)
    · simp at ho
theorem eqTop_ok {ty : Tys} (hty : TyOk P ty) {r : Ren} {op : BinOp} (hop : op = .eql ∨ op = .neq) {t : TypeId} {x y : Operand} {p q : A} {u v : Value} (hu : VA r p u) (hv : VA r q v) {b : Q}
    (h : eqTop ty (isConst x || isConst y) t p q = some b) : (guarded op t x y u v).run P w = .ok (.bool (if op = .eql then b.val else !b.val)) w := by
  unfold eqTop at h
  split at h
  · obtain ⟨T, hT, h⟩ := ob_some h
    obtain ⟨c, hc, h⟩ := ob_some h
    cases h
    exact eqCell_ok hty hop hT hu hv hc (by simp)
  · rename_i xs ys
    obtain ⟨T, hT, h⟩ := ob_some h
    cases hcmp : T.cmp <;> rw [hcmp] at h <;> simp only [cond_true, cond_false] at h
    · cases h
    obtain ⟨X, Y, hX, hY⟩ := eqIn_mk h hT
    obtain ⟨i, d, z, hi, hd, hz, h1, h2, h3, h4, _⟩ := hty t T hT
    rw [hcmp] at h4
    have hg : P.eqGuardType P.depth t = false ∧ T.d.agg = true := by
      have h4 := h4.symm
      cases d <;> simp [cmpOf] at h4 <;> simp [h4, h1, dOf, D.agg]
    have hmx : T.mk' (A.g xs).cells = some (A.g xs) := by simp [Ty.mk', hg.2, A.cells]
    have hmy : T.mk' (A.g ys).cells = some (A.g ys) := by simp [Ty.mk', hg.2, A.cells]
    have he := eqIn_ok (w := w) hty 20 9980 r t T (.g xs) (.g ys) u v b hT hmx hmy hu hv h
    obtain ⟨us, rfl, _⟩ := hu
    obtain ⟨vs, rfl, _⟩ := hv
    exact eq_run hop (run_eqGuard_agg _ _ _ _ _ _ _ hg.1) he (fun o ho => by rcases ho with rfl | rfl <;> rfl)
  · cases h

theorem dec_not (a b : Int) : decide (b ≤ a) = !decide (a < b) := by
  by_cases h : a < b
  · rw [decide_eq_true h, decide_eq_false (by omega)]; rfl
  · rw [decide_eq_false h, decide_eq_true (by omega)]; rfl
theorem bin_ok {ty : Tys} (hty : TyOk P ty) {r : Ren} {op : BinOp} {t : TypeId} {x y : Operand} {p q : A} {u v : Value} (hu : VA r p u) (hv : VA r q v) {s : V} (h : bin ty (isConst x || isConst y) op t p q = some s) :
    ∃ z, (guarded op t x y u v).run P w = .ok z w ∧ VV r s z := by
  obtain ⟨s', hk, hs⟩ := ob_some h
  clear h
  have h := hk
  clear hk
  cases hs
  have hh := orO_some h
  clear h
  rcases hh with h | h
  case inr =>
    unfold symK at h
    split at h
    · rename_i p q
      rcases orO_some h with h | h
      · obtain ⟨k, a, c, e1, e2, h⟩ := num2_some h
        obtain ⟨b, hb, h⟩ := ob_some h
        cases h
        obtain ⟨z, hz, hz'⟩ := intOp_ok (P := P) (w := w) t (cmpX_ok hb k) r
        rw [num_ok e1 hu, num_ok e2 hv]
        exact ⟨z, by simp [guarded, eqGuard_at_int, hz], hz'⟩
      rcases orO_some h with h | h
      case inr.inr =>
        have fin : ∀ (k : IntKind) (i j : Nat) (bb : Bool), p = .xi k i → q = .xi k j → intOp op k (Base.rho i) (Base.rho j) = some (.bool bb) → (∀ z, z = .bool bb → VS r s' z) → ∃ z, (guarded op t x y u v).run P w = .ok z w ∧ VV r (V.s s') z := by
          intro k i j bb e1 e2 ho hf
          subst e1; subst e2
          cases hu; cases hv
          obtain ⟨z, hz, hz'⟩ := intOp_ok (P := P) (w := w) t ho r
          exact ⟨z, by simp [guarded, eqGuard_at_int, hz], hf z hz'⟩
        have hxe : ∀ (d : Nat) (q : Prop) [Decidable q], (Base.rho d = 1 ↔ q) → ∀ z, z = .bool (decide q) → VS r (yesT d) z := by
          intro d q _ hd z hz
          unfold yesT
          cases he : eqC d 1 with
          | none =>
            show z = .bool (decide (Base.rho d = 1) || false)
            rw [hz, Bool.or_false, decide_eq_decide.2 hd]
          | some b =>
            show z = .bool b
            rw [hz, ← eqC_ok he, decide_eq_decide.2 hd]
        have hxa : ∀ (d : Nat) (q : Prop) [Decidable q], (Base.rho d = 1 ↔ q) → ∀ z, z = .bool (!decide q) → VS r (notT d) z := by
          intro d q _ hd z hz
          unfold notT
          cases he : eqC d 1 with
          | none =>
            show z = .bool ((decide (Base.rho d = 1) && true) == false)
            rw [hz, Bool.and_true, decide_eq_decide.2 hd]
            cases decide q <;> rfl
          | some b =>
            show z = .bool (!b)
            rw [hz, ← eqC_ok he, decide_eq_decide.2 hd]
        have less : ∀ {k k' : IntKind} {i j : Nat} {f : Nat → S}, lessT k k' i j f = some s' → k = k' ∧ ∃ d, s' = f d ∧ (Base.rho d = 1 ↔ Base.rho i < Base.rho j) := by
          intro k k' i j f hl
          unfold lessT at hl
          cases hk : (k == k') <;> rw [hk] at hl <;> simp only [cond_true, cond_false] at hl
          · cases hl
          obtain ⟨d, hd, hl⟩ := ob_some hl
          cases hl
          exact ⟨by simpa using hk, d, rfl, Base.ok.xt.lf _ _ _ (find2_mem hd)⟩
        have same : ∀ {k k' : IntKind} {i j : Nat} {f : Nat → S}, sameT k k' i j f = some s' → k = k' ∧ ∃ d, s' = f d ∧ (Base.rho d = 1 ↔ Base.rho i = Base.rho j) := by
          intro k k' i j f hl
          unfold sameT at hl
          cases hk : (k == k') <;> rw [hk] at hl <;> simp only [cond_true, cond_false] at hl
          · cases hl
          obtain ⟨d, hd, hl⟩ := ob_some hl
          cases hl
          exact ⟨by simpa using hk, d, rfl, Base.ok.xt.eq _ _ _ (find2_mem hd)⟩
        unfold cmpT at h
        split at h
        · obtain ⟨rfl, d, rfl, hd⟩ := less h
          exact fin _ _ _ _ rfl rfl rfl (hxe d _ hd)
        · obtain ⟨rfl, d, rfl, hd⟩ := less h
          exact fin _ _ _ _ rfl rfl rfl (hxe d _ hd)
        · obtain ⟨rfl, d, rfl, hd⟩ := less h
          exact fin _ _ _ _ rfl rfl (by simp only [intOp, dec_not]) (hxa d _ hd)
        · obtain ⟨rfl, d, rfl, hd⟩ := less h
          exact fin _ _ _ _ rfl rfl (by simp only [intOp, dec_not]) (hxa d _ hd)
        · obtain ⟨rfl, d, rfl, hd⟩ := same h
          exact fin _ _ _ _ rfl rfl rfl (fun z hz => hxe d _ hd z (by rw [hz]; rfl))
        · obtain ⟨rfl, d, rfl, hd⟩ := same h
          exact fin _ _ _ _ rfl rfl rfl (fun z hz => hxa d _ hd z (by rw [hz]; rfl))
        · cases h
      · obtain ⟨a, ha, h⟩ := ob_some h
        obtain ⟨c, hc, h⟩ := ob_some h
        rw [txt_ok ha hu, txt_ok hc hv]
        have key : ∀ s'', strBin op (strX Base.sig a) (strX Base.sig c) = some s'' → (∀ z, VS r s'' z → VS r s' z) → ∃ z, (guarded op t x y (.string ⟨(strX Base.sig a).toArray⟩) (.string ⟨(strX Base.sig c).toArray⟩)).run P w = .ok z w ∧ VV r (V.s s') z := fun s'' h1 h2 => by
          obtain ⟨z, hz, hz'⟩ := strBin_ok (P := P) (w := w) t h1 r
          exact ⟨z, by simp [guarded, eqGuard_at_string, hz], h2 z hz'⟩
        split at h
        · obtain ⟨m, hm, h⟩ := ob_some h
          cases hb : Nat.ble m maxStr <;> rw [hb] at h <;> simp only [cond_true, cond_false] at h
          · cases h
          cases h
          have h1 := mxX_ok hm
          have h2 := Nat.le_of_ble_eq_true hb
          rw [strX_app, List.length_append] at h1
          refine key (.str (strX Base.sig a ++ strX Base.sig c)) ?_ fun z hz => ?_
          · unfold strBin cat
            rw [Nat.ble_eq_true_of_le (by omega)]
            rfl
          · show z = _
            rw [strX_app]
            exact hz
        · rcases orO_some h with h | h
          · obtain ⟨b, hb, h⟩ := ob_some h
            cases h
            have e := eqS_ok hb
            exact key _ rfl fun z hz => hz.trans (by rw [beq_dec, ← e])
          · obtain ⟨l, hl, h⟩ := ob_some h
            cases h
            have e := Base.ok.sx _ _ _ (findSx_mem hl)
            exact key _ rfl fun z hz => hz.trans (by rw [beq_dec, e]; congr 1; simp)
        · rcases orO_some h with h | h
          · obtain ⟨b, hb, h⟩ := ob_some h
            cases h
            have e := eqS_ok hb
            exact key _ rfl fun z hz => hz.trans (by rw [beq_dec, ← e])
          · obtain ⟨l, hl, h⟩ := ob_some h
            cases h
            have e := Base.ok.sx _ _ _ (findSx_mem hl)
            exact key _ rfl fun z hz => hz.trans (by rw [beq_dec, e]; congr 1; simp)
        · cases h
    · cases h
  unfold binK at h
  split at h
  · rename_i k a k' b h1 h2
    have e1 := A.k_int h1
    have e2 := A.k_int h2
    subst e1; subst e2
    cases hu; cases hv
    obtain ⟨z, hz, hz'⟩ := intBin_ok (P := P) (w := w) t h r
    exact ⟨z, by simp [guarded, eqGuard_at_int, hz], hz'⟩
  · rename_i a b h1 h2
    have e1 := A.k_str h1
    have e2 := A.k_str h2
    subst e1; subst e2
    cases hu; cases hv
    obtain ⟨z, hz, hz'⟩ := strBin_ok (P := P) (w := w) t h r
    exact ⟨z, by simp [guarded, eqGuard_at_string, hz], hz'⟩
  · unfold eqBin at h
    split at h
    · obtain ⟨b, hb, h⟩ := ob_some h
      cases h
      cases b <;> exact ⟨_, eqTop_ok hty (.inl rfl) hu hv hb, by simp [VV, VA, VS, Q.val]⟩
    · obtain ⟨b, hb, h⟩ := ob_some h
      cases h
      cases b <;> exact ⟨_, eqTop_ok hty (.inr rfl) hu hv hb, by simp [VV, VA, VS, Q.val]⟩
    · cases h
  · cases h

theorem wrap_in (k : IntKind) {n : Int} (h1 : k.min ≤ n) (h2 : n ≤ k.max) : k.wrap n = n := by
  cases k <;> simp [IntKind.min, IntKind.max, IntKind.signed, IntKind.bits] at h1 h2 <;> simp [IntKind.wrap, IntKind.bits, IntKind.signed] <;> (try split) <;> omega
theorem un_ok {r : Ren} {op : UnOp} {x : S} {u : Value} (hu : VS r x u) {s : V} (h : un op x = some s) : ∃ z, (Op.unary op u).run P w = .ok z w ∧ VV r s z := by
  unfold un at h
  split at h
  · cases h; cases hu
    exact ⟨_, rfl, rfl⟩
  · rename_i l b
    cases h; cases hu
    refine ⟨_, rfl, ?_⟩
    show _ = _
    cases b <;> simp
  · obtain ⟨b, hb, h⟩ := ob_some h
    cases h
    rw [isBool_ok hb hu]
    exact ⟨_, rfl, rfl⟩
  · cases h
theorem convInt_ok {ty : Tys} (hty : TyOk P ty) {r : Ren} {src dst : TypeId} {Sx T : Ty} (hS : ty src = some Sx) (hT : ty dst = some T) {x : S} {u : Value} (hu : VS r x u) {s : V} (h : convInt T.d x = some s) : ∃ z, (convert src dst u).run P w = .ok z w ∧ VV r s z := by
  obtain ⟨i, d, z, hi, hd, hz, h1, _⟩ := hty dst T hT
  obtain ⟨i', d', z', hi', hd', hz', h1', _⟩ := hty src Sx hS
  unfold convInt at h
  split at h
  · rename_i k q n hD
    cases h
    cases hu
    rw [hD] at h1
    obtain rfl := dOf_int h1.symm
    refine ⟨_, ?_, rfl⟩
    simp only [convert, Sem.run_bind, run_underlying hd, run_underlying hd', Result.andThen_ok]
    cases d' <;> rfl
  · rename_i s' hD
    cases h
    cases hu
    rw [hD] at h1
    obtain rfl := dOf_str h1.symm
    refine ⟨_, ?_, rfl⟩
    simp only [convert, Sem.run_bind, run_underlying hd, run_underlying hd', Result.andThen_ok]
    cases d' <;> rfl
  · rename_i k q j hD
    obtain ⟨p, hp, h⟩ := ob_some h
    cases hc : (decide (k.min ≤ p.1) && decide (p.2 ≤ k.max)) <;> rw [hc] at h <;> simp only [cond_true, cond_false] at h
    · cases h
    cases h
    cases hu
    rw [hD] at h1
    obtain rfl := dOf_int h1.symm
    have hj := Base.ok.iv _ _ hp
    simp only [Bool.and_eq_true, decide_eq_true_eq] at hc
    have hw : k.wrap (Base.rho j) = Base.rho j := wrap_in k (by omega) (by omega)
    refine ⟨.int k (k.wrap (Base.rho j)), ?_, by rw [hw]; rfl⟩
    simp only [convert, Sem.run_bind, run_underlying hd, run_underlying hd', Result.andThen_ok]
    cases d' <;> rfl
  · rename_i l hD
    cases h
    cases hu
    rw [hD] at h1
    obtain rfl := dOf_str h1.symm
    refine ⟨_, ?_, rfl⟩
    simp only [convert, Sem.run_bind, run_underlying hd, run_underlying hd', Result.andThen_ok]
    cases d' <;> rfl
  · cases h
theorem extract_ok {r : Ren} {v : V} {u : Value} (hu : VV r v u) {i : Nat} {s : V} (h : V.rec (fun _ => none) (fun l => ob (nth l i) vA) none v = some s) : ∃ z, (Instr.extract u i).run P w = .ok z w ∧ VV r s z := by
  cases v with
  | a x => cases h
  | t l =>
    obtain ⟨y, hy, hs⟩ := ob_some (show ob (nth l i) vA = some s from h)
    cases hs
    obtain ⟨vs, rfl, hl⟩ := hu
    obtain ⟨z, hz, hz'⟩ := All2.nth hl hy
    exact ⟨z, by simp [Instr.extract, hz], hz'⟩
  | any => cases h

theorem fieldOf_ok {ty : Tys} (hty : TyOk P ty) {s : TypeId} {f : Nat} {q : Nat × Ty} (h : fieldOf ty s f = some q) :
    ∃ F fd, P.underlying s = some (.struct F) ∧ F[f]? = some fd ∧ fd.offset = q.1 ∧ ty fd.type = some q.2 := by
  obtain ⟨T, hT, h⟩ := ob_some h
  obtain ⟨i, d, z, hi, hd, hz, h1, _⟩ := hty s T hT
  cases hD : T.d <;> rw [hD] at h <;> simp only at h <;> (try (cases h; done))
  rw [hD] at h1
  obtain ⟨F, rfl, hF⟩ := dOf_st h1.symm
  obtain ⟨p, hp, h⟩ := ob_some h
  obtain ⟨G, hG, h⟩ := ob_some h
  cases h
  rw [hF, nth_eq] at hp
  simp only [List.getElem?_map, Array.getElem?_toList, Option.map_eq_some_iff] at hp
  obtain ⟨fd, hfd, rfl⟩ := hp
  exact ⟨F, fd, hd, hfd, rfl, hG⟩
theorem size_run {ty : Tys} (hty : TyOk P ty) {t : TypeId} {T : Ty} (hT : ty t = some T) : (sizeOf t).run P w = .ok T.size w := by
  obtain ⟨i, d, z, hi, hd, hz, h1, h2, _⟩ := hty t T hT
  simp [sizeOf, typeInfo, hi, h2]
theorem Addr.add_at (r : Ren) (l o k : Nat) : (r.at l o).add k = r.at l (o + k) := by
  unfold Addr.add Ren.at
  split
  · simp_all
  · simp [Nat.add_assoc]
theorem fieldAddr_ok {ty : Tys} (hty : TyOk P ty) {r : Ren} {s : TypeId} {f : Nat} {l o : Nat} (hl : r.ok l) {q : Nat × Ty} (hq : fieldOf ty s f = some q) (hz : (q.2.size == 0) = false) :
    ∃ z, (Instr.fieldAt s (.pointer (some (r.at l o))) f).run P w = .ok z w ∧ VV r (V.s (.ptr l (o + q.1))) z := by
  obtain ⟨F, fd, hu, hf, ho, ht⟩ := fieldOf_ok hty hq
  have hs := size_run (w := w) hty ht
  refine ⟨.pointer (some (r.at l (o + q.1))), ?_, hl, rfl⟩
  have h0 : q.2.size ≠ 0 := by simpa using hz
  simp [Instr.fieldAt, run_underlying hu, hf, Instr.sureAddr, fieldPlace, hs, h0, Addr.add_at, ho]
theorem field_ok {ty : Tys} (hty : TyOk P ty) {r : Ren} {s : TypeId} {f : Nat} {cs : List S} {us : List Value} (hc : All2 (VS r) cs us) {q : Nat × Ty} (hq : fieldOf ty s f = some q) {c : List S} (he : ext cs q.1 q.2.size = some c) {x : A} (hm : q.2.mk' c = some x) :
    ∃ z, (Instr.field s (.agg us.toArray) f).run P w = .ok z w ∧ VA r x z := by
  obtain ⟨F, fd, hu, hf, ho, ht⟩ := fieldOf_ok hty hq
  obtain ⟨u, hu1, hu2, _⟩ := part_ok (w := w) hty ht hc he hm
  exact ⟨u, by simp [Instr.field, run_underlying hu, hf, asAgg, ho, hu1], hu2⟩
theorem idx_ok {n : Int} {len i : Nat} (h : idx n len = some i) : n = i ∧ i < len := by
  cases n with
  | ofNat k =>
    have h' : (bif Nat.blt k len then some k else none) = some i := h
    cases hb : Nat.blt k len <;> rw [hb] at h' <;> cases h'
    exact ⟨rfl, Nat.le_of_ble_eq_true hb⟩
  | negSucc k => cases h
theorem bnd_ok {n : Int} {len i : Nat} (h : bnd n len = some i) : n = i ∧ i ≤ len := by
  cases n with
  | ofNat k =>
    have h' : (bif Nat.ble k len then some k else none) = some i := h
    cases hb : Nat.ble k len <;> rw [hb] at h' <;> cases h'
    exact ⟨rfl, Nat.le_of_ble_eq_true hb⟩
  | negSucc k => cases h
theorem elemOf_ok {ty : Tys} (hty : TyOk P ty) {t : TypeId} {E : Ty} (h : elemOf ty t = some E) : ∃ e, P.underlying t = some (.slice e) ∧ ty e = some E := by
  obtain ⟨T, hT, h⟩ := ob_some h
  obtain ⟨i, d, z, hi, hd, hz, h1, _⟩ := hty t T hT
  cases hD : T.d <;> rw [hD] at h <;> simp only at h <;> (try (cases h; done))
  rw [hD] at h1
  exact ⟨_, hd.trans (by rw [dOf_sl h1.symm]), h⟩
theorem arrOf_ok {ty : Tys} (hty : TyOk P ty) {t : TypeId} {q : Nat × Ty} (h : arrOf ty t = some q) : ∃ e, P.underlying t = some (.array q.1 e) ∧ ty e = some q.2 := by
  obtain ⟨T, hT, h⟩ := ob_some h
  obtain ⟨i, d, z, hi, hd, hz, h1, _⟩ := hty t T hT
  cases hD : T.d <;> rw [hD] at h <;> simp only at h <;> (try (cases h; done))
  obtain ⟨E, hE, h⟩ := ob_some h
  cases h
  rw [hD] at h1
  exact ⟨_, hd.trans (by rw [dOf_arr h1.symm]), hE⟩
theorem indexAddr_ok {ty : Tys} (hty : TyOk P ty) {r : Ren} {t : TypeId} {k : IntKind} {n : Int} {x : S} {u : Value} (hu : VS r x u) {s : V} (h : indexAddrS ty t n x = some s) :
    ∃ z, (Instr.indexAt t u (.int k n)).run P w = .ok z w ∧ VV r s z := by
  unfold indexAddrS at h
  split at h
  · rename_i l o
    obtain ⟨q, hq, h⟩ := ob_some h
    obtain ⟨i, hi, h⟩ := ob_some h
    cases h
    obtain ⟨e, he, hE⟩ := arrOf_ok hty hq
    obtain ⟨rfl, hlt⟩ := idx_ok hi
    obtain ⟨hl, rfl⟩ := hu
    have hs := size_run (w := w) hty hE
    refine ⟨_, ?_, hl, rfl⟩
    have h0 : (0 : Int) ≤ (i : Int) ∧ (i : Int) < (q.1 : Int) := by omega
    simp [Instr.indexAt, asIntOf, run_underlying he, Instr.sureAddr, hlt, hs, Addr.add_at]
  · rename_i l o m z c
    obtain ⟨E, hE, h⟩ := ob_some h
    obtain ⟨i, hi, h⟩ := ob_some h
    cases hz : (E.size == z) <;> rw [hz] at h <;> cases h
    obtain ⟨e, he, hE'⟩ := elemOf_ok hty hE
    obtain ⟨rfl, hlt⟩ := idx_ok hi
    have hs := size_run (w := w) hty hE'
    have hz' : E.size = z := by simpa using hz
    have hsl : ∃ cc, u = .slice (some (r.at l o)) m cc ∧ r.ok l := by
      cases c with
      | none => exact ⟨_, hu.2.2.2, hu.1⟩
      | some c => exact ⟨_, hu.2.2.2, hu.1⟩
    obtain ⟨cc, rfl, hl⟩ := hsl
    refine ⟨_, ?_, hl, rfl⟩
    simp [Instr.indexAt, asIntOf, run_underlying he, hlt, hs, Addr.add_at, hz']
  · cases h

theorem indexAddrX_ok {ty : Tys} (hty : TyOk P ty) {r : Ren} {t : TypeId} {i x : S} {n u : Value} (hu : VS r x u) (hn : VS r i n) {s : V} (h : indexAddrX ty t i x = some s) :
    ∃ z, (Instr.indexAt t u n).run P w = .ok z w ∧ VV r s z := by
  unfold indexAddrX at h
  split at h
  · rename_i k j l o
    obtain ⟨q, hq, h⟩ := ob_some h
    obtain ⟨p, hp, h⟩ := ob_some h
    cases hc : (q.2.size == 1 && decide (0 ≤ p.1) && decide (p.2 < q.1)) <;> rw [hc] at h <;> cases h
    simp only [Bool.and_eq_true, decide_eq_true_eq, beq_iff_eq] at hc
    obtain ⟨e, he, hE⟩ := arrOf_ok hty hq
    have hs := size_run (w := w) hty hE
    obtain ⟨h1, h2⟩ := Base.ok.iv _ _ hp
    obtain ⟨hl, rfl⟩ := hu
    cases hn
    have h0 : (0 : Int) ≤ Base.rho j ∧ Base.rho j < (q.1 : Int) := by omega
    refine ⟨_, ?_, hl, h0.1, h0.2, rfl⟩
    obtain ⟨m, hm⟩ : ∃ m : Nat, Base.rho j = m := ⟨_, (Int.toNat_of_nonneg h0.1).symm⟩
    rw [hm] at h0 ⊢
    have hlt : m < q.1 := by omega
    simp [Instr.indexAt, asIntOf, run_underlying he, Instr.sureAddr, hlt, hs, Addr.add_at, hc.1.1]
  · cases h
theorem indexAddrI_ok {ty : Tys} (hty : TyOk P ty) {r : Ren} {t : TypeId} {i x : S} {n u : Value} (hu : VS r x u) (hn : VS r i n) {s : V} (h : indexAddrI ty t i x = some s) :
    ∃ z, (Instr.indexAt t u n).run P w = .ok z w ∧ VV r s z := by
  rcases orO_some h with h | h
  · obtain ⟨m, hm, h⟩ := ob_some h
    unfold S.isInt at hm
    split at hm <;> cases hm
    cases hn
    exact indexAddr_ok hty hu h
  · exact indexAddrX_ok hty hu hn h

theorem index_arr_ok {ty : Tys} (hty : TyOk P ty) {r : Ren} {t : TypeId} {k : IntKind} {n : Int} {cs : List S} {us : List Value} (hc : All2 (VS r) cs us) {s : V} (h : indexArr ty t n cs = some s) :
    ∃ z, (Instr.index t (.agg us.toArray) (.int k n)).run P w = .ok z w ∧ VV r s z := by
  obtain ⟨q, hq, h⟩ := ob_some h
  obtain ⟨i, hi, h⟩ := ob_some h
  obtain ⟨c, he, h⟩ := ob_some h
  obtain ⟨x, hm, h⟩ := ob_some h
  cases h
  obtain ⟨e, hu, hE⟩ := arrOf_ok hty hq
  obtain ⟨rfl, hlt⟩ := idx_ok hi
  have hs := size_run (w := w) hty hE
  obtain ⟨u, hu1, hu2, _⟩ := part_ok (w := w) hty hE hc he hm
  exact ⟨u, by simp [Instr.index, asIntOf, run_underlying hu, hlt, hs, hu1], hu2⟩
theorem isStrT_ok {ty : Tys} (hty : TyOk P ty) {t : TypeId} (h : isStrT ty t = true) : P.underlying t = some .string := by
  unfold isStrT at h
  cases hT : ty t with
  | none => rw [hT] at h; cases h
  | some T =>
    rw [hT] at h
    obtain ⟨i, d, z, hi, hd, hz, h1, _⟩ := hty t T hT
    cases hD : T.d <;> simp only [hD] at h <;> (try (cases h; done))
    rw [hD] at h1
    exact hd.trans (by rw [dOf_str h1.symm])
theorem index_str_ok {ty : Tys} (hty : TyOk P ty) {r : Ren} {t : TypeId} {k : IntKind} {n : Int} {x : S} {u : Value} (hu : VS r x u) {s : V} (h : indexStr ty t n x = some s) :
    ∃ z, (Instr.index t u (.int k n)).run P w = .ok z w ∧ VV r s z := by
  unfold indexStr at h
  split at h
  · rename_i b
    obtain ⟨T, hT, h⟩ := ob_some h
    obtain ⟨i, d, z, hi, hd, hz, h1, _⟩ := hty t T hT
    cases hD : T.d <;> simp only [hD] at h <;> (try (cases h; done))
    rw [hD] at h1
    obtain rfl := dOf_str h1.symm
    obtain ⟨j, hj, h⟩ := ob_some h
    obtain ⟨c, hc, h⟩ := ob_some h
    cases h
    cases hu
    obtain ⟨rfl, hlt⟩ := idx_ok hj
    rw [nth_eq] at hc
    have hb : (⟨b.toArray⟩ : ByteArray)[j]? = some c := by
      have hsz : j < (⟨b.toArray⟩ : ByteArray).size := by rw [ba_size]; exact hlt
      rw [getElem?_pos (⟨b.toArray⟩ : ByteArray) j hsz]
      simp only [List.getElem?_eq_getElem hlt, Option.some.injEq] at hc
      rw [← hc]
      rfl
    exact ⟨_, by simp [Instr.index, asIntOf, run_underlying hd, hb], rfl⟩
  · cases h

def OV : Option Int → Option Value → Prop
  | none, none => True
  | some n, some v => ∃ k, v = .int k n
  | _, _ => False
theorem sliceBounds_ok {isS : Bool} {len cap : Nat} {lo hi : Option Int} {vl vh : Option Value} (hl : OV lo vl) (hh : OV hi vh) {h l : Nat} (e1 : bnd (oi hi len) cap = some h) (e2 : bnd (oi lo 0) h = some l) :
    (Instr.sliceBounds isS len cap vl vh none).run P w = .ok (l, h, cap) w ∧ l ≤ h ∧ h ≤ cap := by
  obtain ⟨g1, g2⟩ := bnd_ok e1
  obtain ⟨g3, g4⟩ := bnd_ok e2
  refine ⟨?_, g4, g2⟩
  cases hi with
  | none =>
    cases vh with
    | some v => exact hh.elim
    | none =>
      have g1 : len = h := by
        have : (len : Int) = h := by simpa [oi] using g1
        omega
      subst g1
      cases lo with
      | none => cases vl with
        | some v => exact hl.elim
        | none =>
          have : l = 0 := by have : (0 : Int) = l := g3; omega
          subst this
          simp [Instr.sliceBounds]
      | some n => cases vl with
        | none => exact hl.elim
        | some v =>
          obtain ⟨k, rfl⟩ := hl
          obtain rfl : n = l := g3
          simp [Instr.sliceBounds, run_sliceBound w k (l : Int) len _ (by omega) (by omega)]
  | some m =>
    cases vh with
    | none => exact hh.elim
    | some v =>
      obtain ⟨k', rfl⟩ := hh
      obtain rfl : m = h := g1
      cases lo with
      | none => cases vl with
        | some v => exact hl.elim
        | none =>
          have : l = 0 := by have : (0 : Int) = l := g3; omega
          subst this
          simp [Instr.sliceBounds, run_sliceBound w k' (h : Int) cap _ (by omega) (by omega)]
      | some n => cases vl with
        | none => exact hl.elim
        | some v =>
          obtain ⟨k, rfl⟩ := hl
          obtain rfl : n = l := g3
          simp [Instr.sliceBounds, run_sliceBound w k (l : Int) h _ (by omega) (by omega), run_sliceBound w k' (h : Int) cap _ (by omega) (by omega)]
theorem sliceBounds3_ok {len cap : Nat} {lo : Option Int} {vl : Option Value} {hn mn : Int} {kh km : IntKind} (hl : OV lo vl) {m h l : Nat} {isS : Bool} (e0 : bnd mn cap = some m) (e1 : bnd hn m = some h) (e2 : bnd (oi lo 0) h = some l) :
    (Instr.sliceBounds isS len cap vl (some (.int kh hn)) (some (.int km mn))).run P w = .ok (l, h, m) w ∧ l ≤ h ∧ h ≤ m := by
  obtain ⟨rfl, g0⟩ := bnd_ok e0
  obtain ⟨rfl, g2⟩ := bnd_ok e1
  obtain ⟨g3, g4⟩ := bnd_ok e2
  refine ⟨?_, g4, g2⟩
  cases lo with
  | none => cases vl with
    | some v => exact hl.elim
    | none =>
      have : l = 0 := by have : (0 : Int) = l := g3; omega
      subst this
      simp [Instr.sliceBounds, run_sliceBound w km (m : Int) cap _ (by omega) (by omega), run_sliceBound w kh (h : Int) m _ (by omega) (by omega)]
  | some n => cases vl with
    | none => exact hl.elim
    | some v =>
      obtain ⟨k, rfl⟩ := hl
      obtain rfl : n = l := g3
      simp [Instr.sliceBounds, run_sliceBound w km (m : Int) cap _ (by omega) (by omega), run_sliceBound w kh (h : Int) m _ (by omega) (by omega), run_sliceBound w k (l : Int) h _ (by omega) (by omega)]

/-- a piece of a row -/
theorem piece_ok {r : Ren} {l o z k h m : Nat} (hl : r.ok l) (hz : 0 < z) (hk : k ≤ h) (hm : h ≤ m) {c : Option Nat} {s : S} (hs : mkSl l o z k h c = some s)
    (hc : c = some (m - k) ∨ (c = none ∧ m = (r.cap l - o) / z ∧ m ≤ maxLen)) : VS r s (.slice (if m = k then some (r.at l o) else some (r.at l (o + k * z))) (h - k) (m - k)) := by
  unfold mkSl at hs
  cases hb : (h == k) <;> rw [hb] at hs <;> cases hs
  · have hne : h ≠ k := by simpa using hb
    rw [if_neg (by omega)]
    rcases hc with rfl | ⟨rfl, hm'⟩
    · exact ⟨hl, hz, by omega, rfl⟩
    · have e : (r.cap l - (o + k * z)) / z = m - k := by
        rw [hm'.1, ← Nat.sub_sub, Nat.mul_comm, Nat.sub_mul_div]
      exact ⟨hl, ⟨hz, by rw [e]; have := hm'.2; omega⟩, by rw [e]; omega, by rw [e]⟩
  · have hne : h = k := by simpa using hb
    subst hne
    rw [Nat.sub_self]
    split
    · exact ⟨_, _, rfl⟩
    · exact ⟨_, _, rfl⟩

theorem bnds_some {len cap : Nat} {lo hi : Option Int} {k : Nat → Nat → Option S} {s : S} (h : bnds len cap lo hi k = some s) : ∃ q p, bnd (oi hi len) cap = some q ∧ bnd (oi lo 0) q = some p ∧ k p q = some s := by
  obtain ⟨q, hq, h⟩ := ob_some h
  obtain ⟨p, hp, h⟩ := ob_some h
  exact ⟨q, p, hq, hp, h⟩
theorem cutAny_ok {r : Ren} {l o n z C : Nat} {c : Option Nat} (hl : r.ok l) (hz : 0 < z) (hc : c = some C ∨ (c = none ∧ C = (r.cap l - o) / z ∧ C ≤ maxLen)) (hn : n ≤ C) {lo hi mx : Option Int} {vl vh vm : Option Value}
    (ol : OV lo vl) (oh : OV hi vh) (om : OV mx vm) {s : S} (hs : cutAny l o n z c lo hi mx = some s) (isS : Bool) :
    ∃ h k m, (Instr.sliceBounds isS n C vl vh vm).run P w = .ok (k, h, m) w ∧ VS r s (.slice (if m = k then some (r.at l o) else some (r.at l (o + k * z))) (h - k) (m - k)) := by
  cases mx with
  | none =>
    cases vm with
    | some v => exact om.elim
    | none =>
      rcases hc with rfl | ⟨rfl, rfl, hmx⟩
      · obtain ⟨h, k, e1, e2, hs⟩ := bnds_some (show bnds n C lo hi (fun k h => mkSl l o z k h (some (C - k))) = some s from hs)
        obtain ⟨hr, g1, g2⟩ := sliceBounds_ok (P := P) (w := w) (isS := isS) ol oh e1 e2
        exact ⟨h, k, C, hr, piece_ok hl hz g1 g2 hs (.inl rfl)⟩
      · obtain ⟨h, k, e1, e2, hs⟩ := bnds_some (show bnds n n lo hi (fun k h => mkSl l o z k h none) = some s from hs)
        have e1' : bnd (oi hi n) ((r.cap l - o) / z) = some h := by
          obtain ⟨g, g'⟩ := bnd_ok e1
          rw [g]
          show (bif Nat.ble h _ then some h else none) = some h
          rw [Nat.ble_eq_true_of_le (Nat.le_trans g' hn)]; rfl
        obtain ⟨hr, g1, g2⟩ := sliceBounds_ok (P := P) (w := w) (isS := isS) ol oh e1' e2
        exact ⟨h, k, _, hr, piece_ok hl hz g1 g2 hs (.inr ⟨rfl, rfl, hmx⟩)⟩
  | some mn =>
    cases vm with
    | none => exact om.elim
    | some v =>
      obtain ⟨km, rfl⟩ := om
      obtain ⟨C', hC', hs⟩ := ob_some (show cutSl3 l o n z c lo hi mn = some s from hs)
      rcases hc with rfl | ⟨rfl, _⟩
      · cases hC'
        obtain ⟨m, e0, hs⟩ := ob_some hs
        obtain ⟨hn', rfl, hs⟩ := ob_some hs
        obtain ⟨h, k, e1, e2, hs⟩ := bnds_some hs
        cases vh with
        | none => exact oh.elim
        | some v =>
          obtain ⟨kh, rfl⟩ := oh
          obtain ⟨hr, g1, g2⟩ := sliceBounds3_ok (P := P) (w := w) (isS := isS) (len := n) (kh := kh) (km := km) ol e0 e1 e2
          exact ⟨h, k, m, hr, piece_ok hl hz g1 g2 hs (.inl rfl)⟩
      · cases hC'
theorem slice_ok {ty : Tys} (hty : TyOk P ty) {r : Ren} {t : TypeId} {lo hi mx : Option Int} {vl vh vm : Option Value} (ol : OV lo vl) (oh : OV hi vh) (om : OV mx vm) {x : S} {u : Value} (hu : VS r x u) {s : S}
    (h : sliceS ty t lo hi mx x = some s) : ∃ z, (Instr.sliceAt t u vl vh vm).run P w = .ok z w ∧ VS r s z := by
  unfold sliceS at h
  split at h
  · rename_i l o
    obtain ⟨q, hq, h⟩ := ob_some h
    cases hz : (q.2.size == 0) <;> rw [hz] at h <;> simp only [cond_true, cond_false] at h
    · have hz' : 0 < q.2.size := Nat.pos_of_ne_zero (by simpa using hz)
      obtain ⟨e, hd, hE⟩ := arrOf_ok hty hq
      obtain ⟨hl, rfl⟩ := hu
      have hsz := size_run (w := w) hty hE
      obtain ⟨hh, k, m, hr, hv⟩ := cutAny_ok (P := P) (w := w) hl hz' (.inl rfl) (Nat.le_refl _) ol oh om h false
      refine ⟨_, ?_, hv⟩
      simp only [Instr.sliceAt, Sem.run_bind, run_underlying hd, Result.andThen_ok, Instr.sureAddr, Sem.run_pure, hr, hsz, Addr.add_at]
      congr 2
      split <;> rfl
    · cases h
  · rename_i b
    cases ht : isStrT ty t <;> rw [ht] at h <;> simp only [cond_true, cond_false] at h
    · cases h
    · have hd := isStrT_ok hty ht
      cases mx with
      | some m => cases h
      | none =>
        cases vm with
        | some v => exact om.elim
        | none =>
          obtain ⟨q, p, e1, e2, hs⟩ := bnds_some (show bnds b.length b.length lo hi (fun l h => some (.str ((b.take h).drop l))) = some s from h)
          cases hs
          cases hu
          obtain ⟨hr, g1, g2⟩ := sliceBounds_ok (P := P) (w := w) (isS := false) ol oh e1 e2
          refine ⟨.string ((⟨b.toArray⟩ : ByteArray).extract p q), ?_, ?_⟩
          · simp [Instr.sliceAt, Instr.slice, run_underlying hd, ba_size, hr]
          · show Value.string _ = Value.string _
            congr 1
            apply ByteArray.ext
            simp [List.drop_take, List.extract_eq_take_drop]
  · rename_i l o n z c
    obtain ⟨E, hE, h⟩ := ob_some h
    cases hz : (E.size == z) <;> rw [hz] at h <;> simp only [cond_true, cond_false] at h
    · cases h
    · have hz' : E.size = z := by simpa using hz
      obtain ⟨e, hd, hE'⟩ := elemOf_ok hty hE
      have hsz := size_run (w := w) hty hE'
      cases c with
      | none =>
        obtain ⟨hl, ⟨hzp, hmx⟩, hn, rfl⟩ := hu
        obtain ⟨hh, k, m, hr, hv⟩ := cutAny_ok (P := P) (w := w) hl hzp (.inr ⟨rfl, rfl, hmx⟩) hn ol oh om h true
        refine ⟨_, ?_, hv⟩
        simp only [Instr.sliceAt, Instr.slice, Sem.run_bind, run_underlying hd, Result.andThen_ok, Sem.run_pure, hr, hsz, hz', Option.map_some, Addr.add_at]
      | some C =>
        obtain ⟨hl, hzp, hn, rfl⟩ := hu
        obtain ⟨hh, k, m, hr, hv⟩ := cutAny_ok (P := P) (w := w) hl hzp (.inl rfl) hn ol oh om h true
        refine ⟨_, ?_, hv⟩
        simp only [Instr.sliceAt, Instr.slice, Sem.run_bind, run_underlying hd, Result.andThen_ok, Sem.run_pure, hr, hsz, hz', Option.map_some, Addr.add_at]
  · obtain ⟨E, hE, h⟩ := ob_some h
    obtain ⟨e, hd, hE'⟩ := elemOf_ok hty hE
    have hsz := size_run (w := w) hty hE'
    cases mx with
    | some m => cases h
    | none =>
      cases vm with
      | some v => exact om.elim
      | none =>
        obtain ⟨q, p, e1, e2, hs⟩ := bnds_some (show bnds 0 0 lo hi (fun _ _ => some .nils) = some s from h)
        cases hs
        cases hu
        obtain ⟨hr, g1, g2⟩ := sliceBounds_ok (P := P) (w := w) (isS := true) ol oh e1 e2
        obtain rfl : q = 0 := by omega
        obtain rfl : p = 0 := by omega
        exact ⟨.slice none 0 0, by simp [Instr.sliceAt, Instr.slice, run_underlying hd, hr, hsz], rfl⟩
  · cases h

theorem foldl_lay (off : Nat) : ∀ (vs : List Value) (k : Nat) (C : Array Value), off + k + vs.length ≤ C.size →
    ((vs.zipIdx k).foldl (fun cs (p : Value × Nat) => cs.setIfInBounds (off + p.2) p.1) C).toList = C.toList.take (off + k) ++ (vs ++ C.toList.drop (off + k + vs.length))
  | [], k, C, _ => by simp
  | v :: vs, k, C, h => by
    simp only [List.length_cons] at h
    simp only [List.zipIdx_cons, List.foldl_cons]
    rw [foldl_lay off vs (k + 1) _ (by simp; omega)]
    simp only [Array.toList_setIfInBounds]
    have e1 : (C.toList.set (off + k) v).take (off + (k + 1)) = C.toList.take (off + k) ++ [v] := by
      rw [show off + (k + 1) = off + k + 1 by omega, List.take_succ_eq_append_getElem (by simp; omega)]
      simp [List.take_set_of_le]
    have e2 : (C.toList.set (off + k) v).drop (off + (k + 1) + vs.length) = C.toList.drop (off + k + (vs.length + 1)) := by
      rw [List.drop_set_of_lt (by omega)]
      congr 1
      omega
    rw [e1, e2]
    simp
theorem fill_ok {r : Ren} (pl : Nat → Option (Nat × Nat)) : ∀ {ps : List (Nat × A)} {qs : List (Nat × Value)} {cs : List S} {C : Array Value} {out : List S}, All2 (fun p q => p.1 = q.1 ∧ VA r p.2 q.2) ps qs → All2 (VS r) cs C.toList →
    fill pl ps cs = some out → ∃ D, Instr.fill pl C qs = some D ∧ All2 (VS r) out D.toList
  | [], [], cs, C, out, _, hc, h => by cases h; exact ⟨C, rfl, hc⟩
  | [], _ :: _, _, _, _, h, _, _ => h.elim
  | _ :: _, [], _, _, _, h, _, _ => h.elim
  | (i, v) :: ps, (j, u) :: qs, cs, C, out, hp, hc, h => by
    obtain ⟨⟨rfl, hv⟩, hp⟩ := hp
    obtain ⟨q, hq, h⟩ := ob_some (show ob (pl i) (fun q => bif v.cells.length == q.2 && Nat.ble (q.1 + q.2) cs.length then ob (lay cs q.1 v.cells) (fill pl ps) else none) = some out from h)
    cases hz : (v.cells.length == q.2 && Nat.ble (q.1 + q.2) cs.length) <;> rw [hz] at h <;> simp only [cond_true, cond_false] at h
    · cases h
    obtain ⟨cs', hl, h⟩ := ob_some h
    have hvc := VA.cells hv
    have hlen := hvc.len
    have hclen := hc.len
    simp only [Array.length_toList] at hlen hclen
    obtain ⟨_, rfl⟩ := lay_eq hl
    simp only [Bool.and_eq_true, beq_iff_eq] at hz
    obtain ⟨hz1, hz2⟩ := hz
    have hz2 := Nat.le_of_ble_eq_true hz2
    have hbad : ¬ (u.cells.size ≠ q.2 ∨ q.1 + u.cells.size > C.size) := by omega
    let D := u.cells.zipIdx.foldl (fun cs (p : Value × Nat) => cs.setIfInBounds (q.1 + p.2) p.1) C
    have hD : D.toList = C.toList.take q.1 ++ (u.cells.toList ++ C.toList.drop (q.1 + u.cells.toList.length)) := by
      show (u.cells.zipIdx.foldl _ C).toList = _
      rw [← Array.foldl_toList, Array.toList_zipIdx]
      have := foldl_lay q.1 u.cells.toList 0 C (by simp; omega)
      simpa using this
    have hc' : All2 (VS r) (cs.take q.1 ++ (v.cells ++ cs.drop (q.1 + v.cells.length))) D.toList := by
      rw [hD]
      refine (hc.take _).app (hvc.app ?_)
      rw [show u.cells.toList.length = v.cells.length by simp; omega]
      exact hc.drop _
    obtain ⟨E, hE, hE'⟩ := fill_ok pl hp hc' h
    refine ⟨E, ?_, hE'⟩
    simp only [Instr.fill, hq]
    rw [if_neg (by simpa using hbad)]
    exact hE
theorem evParts_ok {r : Ren} {fr : Fr} {a : Act} (hf : FR r fr a) : ∀ {l : List (Nat × Operand)} {ps : List (Nat × A)}, evParts fr l = some ps → All2 (fun p q => p.1 = q.1 ∧ VA r p.2 q.2) ps (l.map fun p => (p.1, a.eval p.2))
  | [], ps, h => by cases h; trivial
  | p :: l, ps, h => by
    obtain ⟨y, hy, h⟩ := ob_some (show ob (ob (evA fr p.2) fun v => some (p.1, v)) (fun y => ob (evParts fr l) fun r => some (y :: r)) = some ps from h)
    obtain ⟨q, hq, h⟩ := ob_some h
    cases h
    obtain ⟨v, hv, hy⟩ := ob_some hy
    cases hy
    exact ⟨⟨rfl, evA_ok hf hv⟩, evParts_ok hf hq⟩
theorem build_ok {ty : Tys} (hty : TyOk P ty) {r : Ren} {t : TypeId} {T : Ty} (hT : ty t = some T) {ps : List (Nat × A)} {qs : List (Nat × Value)} (hp : All2 (fun p q => p.1 = q.1 ∧ VA r p.2 q.2) ps qs) {s : V} (h : buildD ty T ps = some s) :
    ∃ z, (Instr.build t qs.toArray).run P w = .ok z w ∧ VV r s z := by
  obtain ⟨i, d, z, hi, hd, hz, h1, h2, h3, h4, h5⟩ := hty t T hT
  have hzr : (zeroValue t).run P w = .ok z w := by simp [zeroValue, typeInfo, hi, hz]
  unfold buildD at h
  cases hD : T.d <;> simp only [hD] at h <;> (try (cases h; done))
  · rename_i m e
    obtain ⟨E, hE, h⟩ := ob_some h
    obtain ⟨cs, hcs, h⟩ := ob_some h
    cases h
    rw [hD] at h1
    obtain rfl := dOf_arr h1.symm
    obtain ⟨D, hDf, hDc⟩ := fill_ok (r := r) _ hp (h5 r) hcs
    have hs := size_run (w := w) hty hE
    refine ⟨.agg D, ?_, ⟨D.toList, by simp, hDc⟩⟩
    simp [Instr.build, hzr, run_underlying hd, hs, hDf]
  · rename_i fs
    obtain ⟨pl, hpl, h⟩ := ob_some h
    obtain ⟨cs, hcs, h⟩ := ob_some h
    cases h
    rw [hD] at h1
    obtain ⟨F, rfl, hF⟩ := dOf_st h1.symm
    have hpls := mapO_all hpl
    rw [hF] at hpls
    have hm : ∀ (l : List Field) (pl : List (Nat × Nat)), All2 (fun x y => stPlace ty x = some y) (l.map fun f => (f.offset, f.type)) pl →
        ∀ w, (l.mapM fun f => Functor.map (Prod.mk f.offset) (sizeOf f.type) : Sem (List (Nat × Nat))).run P w = .ok pl w := by
      intro l
      induction l with
      | nil => intro pl hp w; cases pl with
        | nil => simp
        | cons y pl => exact hp.elim
      | cons f l ih => intro pl hp w; cases pl with
        | nil => exact hp.elim
        | cons y pl =>
          obtain ⟨hy, hp⟩ := hp
          obtain ⟨G, hG, hy⟩ := ob_some hy
          cases hy
          have hs := size_run (w := w) hty hG
          rw [List.mapM_cons]
          simp [hs, ih pl hp w]
    have hmF : (F.mapM fun f => Functor.map (Prod.mk f.offset) (sizeOf f.type) : Sem (Array (Nat × Nat))).run P w = .ok pl.toArray w := by
      rw [Array.mapM_eq_mapM_toList]
      simp [hm F.toList pl hpls w]
    obtain ⟨D, hDf, hDc⟩ := fill_ok (r := r) _ hp (h5 r) hcs
    refine ⟨.agg D, ?_, ⟨D.toList, by simp, hDc⟩⟩
    have hnth : nth pl = (fun x => pl[x]?) := by funext x; rw [nth_eq]
    rw [hnth] at hDf
    simp [Instr.build, hzr, run_underlying hd, hmF, hDf]
theorem mapPtr_ok {r : Ren} {fr : Fr} {a : Act} (hf : FR r fr a) : ∀ {l : List Operand} {cs : List (Nat × Nat)}, mapO (evPtr fr) l = some cs → (∀ p ∈ cs, r.ok p.1) ∧ l.map a.eval = cs.map fun p => .pointer (some (r.at p.1 p.2))
  | [], cs, h => by cases h; simp
  | x :: l, cs, h => by
    rw [mapO_cons] at h
    obtain ⟨y, hy, h⟩ := ob_some h
    obtain ⟨q, hq, h⟩ := ob_some h
    cases h
    obtain ⟨h1, h2⟩ := evPtr_ok hf hy
    obtain ⟨h3, h4⟩ := mapPtr_ok hf hq
    exact ⟨by simpa using ⟨h1, fun a b hab => h3 (a, b) hab⟩, by simp [h2, h4]⟩
theorem mapS_ok {r : Ren} {fr : Fr} {a : Act} (hf : FR r fr a) : ∀ {l : List Operand} {cs : List S}, mapO (evS fr) l = some cs → All2 (VS r) cs (l.map a.eval)
  | [], cs, h => by cases h; trivial
  | x :: l, cs, h => by
    rw [mapO_cons] at h
    obtain ⟨y, hy, h⟩ := ob_some h
    obtain ⟨q, hq, h⟩ := ob_some h
    cases h
    exact ⟨evS_ok hf hy, mapS_ok hf hq⟩
theorem mapA_ok {r : Ren} {fr : Fr} {a : Act} (hf : FR r fr a) : ∀ {l : List Operand} {cs : List A}, mapO (evA fr) l = some cs → All2 (VA r) cs (l.map a.eval)
  | [], cs, h => by cases h; trivial
  | x :: l, cs, h => by
    rw [mapO_cons] at h
    obtain ⟨y, hy, h⟩ := ob_some h
    obtain ⟨q, hq, h⟩ := ob_some h
    cases h
    exact ⟨evA_ok hf hy, mapA_ok hf hq⟩
theorem maxI_ok {r : Ren} {x y s : S} {u v : Value} (hu : VS r x u) (hv : VS r y v) (h : maxI x y = some s) : ∃ z, (Builtin.max2 u v).run P w = .ok z w ∧ VS r s z := by
  have hh := orO_some h
  clear h
  rcases hh with h | h
  case inr =>
    obtain ⟨k, a, b, e1, e2, h⟩ := num2_some h
    obtain ⟨l, hl, h⟩ := ob_some h
    cases h
    have h1 := num_ok e1 hu
    have h2 := num_ok e2 hv
    subst h1; subst h2
    refine ⟨_, rfl, ?_⟩
    rw [ltX_ok hl]
    by_cases hb : NV a < NV b
    · simp only [hb, decide_true, cond_true, if_true]
      exact hv
    · simp only [hb, decide_false, cond_false, if_false]
      exact hu
  unfold maxI0 at h
  split at h <;> cases h
  cases hu; cases hv
  rename_i k a k' b
  refine ⟨_, rfl, ?_⟩
  show Value.int _ _ = Value.int _ _
  congr 1
  by_cases hb : b > a <;> simp [hb]
theorem minI_ok {r : Ren} {x y s : S} {u v : Value} (hu : VS r x u) (hv : VS r y v) (h : minI x y = some s) : ∃ z, (Builtin.min2 u v).run P w = .ok z w ∧ VS r s z := by
  have hh := orO_some h
  clear h
  rcases hh with h | h
  case inr =>
    obtain ⟨k, a, b, e1, e2, h⟩ := num2_some h
    obtain ⟨l, hl, h⟩ := ob_some h
    cases h
    have h1 := num_ok e1 hu
    have h2 := num_ok e2 hv
    subst h1; subst h2
    refine ⟨_, rfl, ?_⟩
    rw [ltX_ok hl]
    by_cases hb : NV b < NV a
    · simp only [hb, decide_true, cond_true, if_true]
      exact hv
    · simp only [hb, decide_false, cond_false, if_false]
      exact hu
  unfold minI0 at h
  split at h <;> cases h
  cases hu; cases hv
  rename_i k a k' b
  refine ⟨_, rfl, ?_⟩
  show Value.int _ _ = Value.int _ _
  congr 1
  by_cases hb : b < a <;> simp [hb]
theorem foldS_ok {r : Ren} {f : S → S → Option S} {g : Value → Value → Sem Value} (hfg : ∀ {x y s u v}, VS r x u → VS r y v → f x y = some s → ∃ z, (g u v).run P w = .ok z w ∧ VS r s z) :
    ∀ {l : List S} {us : List Value} {x s : S} {u : Value}, VS r x u → All2 (VS r) l us → foldS f x l = some s → ∃ z, (us.foldlM g u).run P w = .ok z w ∧ VS r s z
  | [], [], x, s, u, hu, _, h => by cases h; exact ⟨u, by simp, hu⟩
  | [], _ :: _, _, _, _, _, h, _ => h.elim
  | _ :: _, [], _, _, _, _, h, _ => h.elim
  | y :: l, v :: us, x, s, u, hu, hl, h => by
    obtain ⟨z, hz, h⟩ := ob_some (show ob (f x y) (fun z => foldS f z l) = some s from h)
    obtain ⟨z', hz1, hz2⟩ := hfg hu hl.1 hz
    obtain ⟨q, hq1, hq2⟩ := foldS_ok hfg hz2 hl.2 h
    exact ⟨q, by simp [List.foldlM_cons, hz1, hq1], hq2⟩
theorem findLn_ok {a : List Nat} {j : Nat} : ∀ {l : List (List Nat × Nat)}, findLn a l = some j → (a, j) ∈ l
  | [], h => by cases h
  | (p, i) :: t, h => by
    have h : (bif sameX p a then some i else findLn a t) = some j := h
    cases hc : sameX p a <;> rw [hc] at h <;> simp only [cond_true, cond_false] at h
    · simp [findLn_ok h]
    · cases h
      rw [sameX_ok hc]
      simp
theorem lenXs_ok {ty : Tys} (hty : TyOk P ty) {r : Ren} {t : TypeId} {T : Ty} (hT : ty t = some T) {x : A} {u : Value} (hu : VA r x u) {v : V} (h : lenXs T.d x = some v) (ts : List TypeId) (o : TypeId) :
    ∃ z, (Builtin.len_ (t :: ts).toArray o #[u]).run P w = .ok z w ∧ VV r v z := by
  obtain ⟨i, d, z, hi, hd, hz, h1, _⟩ := hty t T hT
  unfold lenXs at h
  split at h
  · rename_i l hD
    obtain ⟨j, hj, h⟩ := ob_some h
    cases h
    cases hu
    rw [hD] at h1
    obtain rfl := dOf_str h1.symm
    refine ⟨_, by simp [Builtin.len_, run_underlying hd, goInt, ba_size]; rfl, ?_⟩
    show _ = _
    rw [Base.ok.ln _ _ (findLn_ok hj)]
  · cases h
theorem lenD_ok {ty : Tys} (hty : TyOk P ty) {r : Ren} {t : TypeId} {T : Ty} (hT : ty t = some T) {x : A} {u : Value} (hu : VA r x u) {n : Nat} (h : lenD T.d x = some n) (ts : List TypeId) (o : TypeId) :
    (Builtin.len_ (t :: ts).toArray o #[u]).run P w = .ok (.int .i64 n) w := by
  obtain ⟨i, d, z, hi, hd, hz, h1, _⟩ := hty t T hT
  unfold lenD at h
  cases hD : T.d <;> simp only [hD] at h <;> (try (cases h; done)) <;> rw [hD] at h1
  · split at h <;> cases h
    cases hu
    obtain rfl := dOf_str h1.symm
    simp [Builtin.len_, run_underlying hd, goInt, ba_size]
  · obtain rfl := dOf_sl h1.symm
    split at h <;> cases h
    · rename_i l o' z' c
      have : ∃ aa cc, u = .slice (some aa) n cc := by
        cases c with
        | none => exact ⟨_, _, hu.2.2.2⟩
        | some c => exact ⟨_, _, hu.2.2.2⟩
      obtain ⟨aa, cc, rfl⟩ := this
      simp [Builtin.len_, run_underlying hd, goInt]
    · obtain ⟨aa, cc, rfl⟩ := hu
      simp [Builtin.len_, run_underlying hd, goInt]
    · cases hu
      simp [Builtin.len_, run_underlying hd, goInt]
  · cases h
    obtain rfl := dOf_arr h1.symm
    simp [Builtin.len_, run_underlying hd, goInt]
/-! lists -/
structure TabsOk (T : Tabs) : Prop where
  len : ∀ k j, T.lenOf k = some j → ∃ A n c, (Base.lst k).v = .slice A n c ∧ Base.rho j = n
  el : ∀ k i cs, T.elOf k i = some cs → ∃ b off n c el, (Base.lst k).v = .slice (some ⟨b, off, none⟩) n c ∧ 0 ≤ NV i ∧ NV i < n ∧ ElAt k i b (off + (NV i).toNat * cs.length) el ∧ All2 (fun x v => ∀ r, VS r x v) cs el
  add : ∀ i c j, T.addOf i c = some j → Base.rho j = Base.rho i + c ∧ IntKind.i64.min ≤ Base.rho j ∧ Base.rho j ≤ IntKind.i64.max
theorem TabsOk.nought : TabsOk Tabs.nought := ⟨fun _ _ h => (by cases h), fun _ _ _ h => (by cases h), fun _ _ _ h => (by cases h)⟩
theorem addL_ok {T : Tabs} (hT : TabsOk T) {ty : Tys} (hty : TyOk P ty) {r : Ren} {fr : Fr} {a : Act} (hf : FR r fr a) {op : BinOp} {t : TypeId} {x y : Operand} {v : V} (h : addL T fr op x y = some v) :
    ∃ z, (guarded op t x y (a.eval x) (a.eval y)).run P w = .ok z w ∧ VV r v z := by
  unfold addL at h
  split at h
  · obtain ⟨p, hp, h0⟩ := ob_some h
    clear h
    obtain ⟨q, hq, h⟩ := ob_some h0
    clear h0
    have e1 := evS_ok hf hp
    have e2 := evS_ok hf hq
    clear hp hq
    have key : ∃ i c j, p = .xi .i64 i ∧ q = .int .i64 c ∧ T.addOf i c = some j ∧ v = V.s (.xi .i64 j) := by
      revert h
      split
      · intro h
        obtain ⟨j, hj, h⟩ := ob_some h
        cases h
        exact ⟨_, _, j, rfl, rfl, hj, rfl⟩
      · intro h
        cases h
    obtain ⟨i, c, j, rfl, rfl, hj, rfl⟩ := key
    obtain ⟨h1, h2, h3⟩ := hT.add _ _ _ hj
    have e1' : VA r (.s (.int .i64 (Base.rho i))) (a.eval x) := e1
    obtain ⟨z, hz, hz'⟩ := bin_ok (P := P) (w := w) (t := t) (op := .add) (x := x) (y := y) (s := V.s (.int .i64 (IntKind.i64.wrap (Base.rho i + c)))) hty e1' (show VA r (.s (.int .i64 c)) (a.eval y) from e2) rfl
    refine ⟨z, hz, ?_⟩
    have hz' : z = .int .i64 (IntKind.i64.wrap (Base.rho i + c)) := hz'
    show z = .int .i64 (Base.rho j)
    rw [hz', ← h1]
    have h2 : (-9223372036854775808 : Int) ≤ Base.rho j := h2
    have h3 : Base.rho j ≤ (9223372036854775807 : Int) := h3
    rw [IntKind.wrap_i64]
    congr 1
    omega
  · cases h
theorem sumS_ok {op : BinOp} {x y : S} {k : Nat} (h : sumS op x y = some k) : ∃ a b : Int, (∀ r v, VS r x v → v = .int .i64 a) ∧ (∀ r v, VS r y v → v = .int .i64 b) ∧
    ((op = .sub ∧ Base.rho k = a - b) ∨ (op = .add ∧ Base.rho k = a + b)) ∧ IntKind.i64.min ≤ Base.rho k ∧ Base.rho k ≤ IntKind.i64.max := by
  unfold sumS at h
  split at h
  · obtain ⟨h1, h2, h3⟩ := Base.ok.sb _ _ _ (find2_mem h)
    exact ⟨_, _, fun _ _ h => h, fun _ _ h => h, .inl ⟨rfl, h1.symm⟩, h2, h3⟩
  · obtain ⟨h1, h2, h3⟩ := Base.ok.ad _ _ _ (findAd_mem h)
    exact ⟨_, _, fun _ _ h => h, fun _ _ h => h, .inr ⟨rfl, h1.symm⟩, h2, h3⟩
  · obtain ⟨h1, h2, h3⟩ := Base.ok.ad _ _ _ (findAd_mem h)
    exact ⟨_, _, fun _ _ h => h, fun _ _ h => h, .inr ⟨rfl, by rw [← h1]; omega⟩, h2, h3⟩
  · obtain ⟨h1, h2, h3⟩ := Base.ok.xt.sm _ _ _ (find2_mem h)
    exact ⟨_, _, fun _ _ h => h, fun _ _ h => h, .inr ⟨rfl, h1.symm⟩, h2, h3⟩
  · cases h
theorem sumK_ok {ty : Tys} (hty : TyOk P ty) {r : Ren} {fr : Fr} {a : Act} (hf : FR r fr a) {op : BinOp} {t : TypeId} {x y : Operand} {v : V} (h : sumK fr op x y = some v) :
    ∃ z, (guarded op t x y (a.eval x) (a.eval y)).run P w = .ok z w ∧ VV r v z := by
  obtain ⟨p, hp, h⟩ := ob_some h
  obtain ⟨q, hq, h⟩ := ob_some h
  obtain ⟨k, hk, h⟩ := ob_some h
  cases h
  obtain ⟨m, n, e1, e2, hop, h2, h3⟩ := sumS_ok hk
  have e1 := e1 _ _ (evS_ok hf hp)
  have e2 := e2 _ _ (evS_ok hf hq)
  have h2 : (-9223372036854775808 : Int) ≤ Base.rho k := h2
  have h3 : Base.rho k ≤ (9223372036854775807 : Int) := h3
  rcases hop with ⟨rfl, ho⟩ | ⟨rfl, ho⟩
  · obtain ⟨z, hz, hz'⟩ := bin_ok (P := P) (w := w) (t := t) (op := .sub) (x := x) (y := y) (s := V.s (.int .i64 (IntKind.i64.wrap (m - n)))) hty (show VA r (.s (.int .i64 m)) (a.eval x) from e1) (show VA r (.s (.int .i64 n)) (a.eval y) from e2) rfl
    refine ⟨z, hz, ?_⟩
    have hz' : z = .int .i64 (IntKind.i64.wrap (m - n)) := hz'
    show z = .int .i64 (Base.rho k)
    rw [hz', ← ho, IntKind.wrap_i64]
    congr 1
    omega
  · obtain ⟨z, hz, hz'⟩ := bin_ok (P := P) (w := w) (t := t) (op := .add) (x := x) (y := y) (s := V.s (.int .i64 (IntKind.i64.wrap (m + n)))) hty (show VA r (.s (.int .i64 m)) (a.eval x) from e1) (show VA r (.s (.int .i64 n)) (a.eval y) from e2) rfl
    refine ⟨z, hz, ?_⟩
    have hz' : z = .int .i64 (IntKind.i64.wrap (m + n)) := hz'
    show z = .int .i64 (Base.rho k)
    rw [hz', ← ho, IntKind.wrap_i64]
    congr 1
    omega
theorem isRv_some {x : S} {k : Nat} (h : x.isRv = some k) : x = .rv k := by
  cases x <;> simp [S.isRv] at h
  rw [h]
theorem isPe_some {x : S} {p : Nat × N × Nat} (h : x.isPe = some p) : x = .pe p.1 p.2.1 p.2.2 := by
  cases x <;> simp [S.isPe] at h
  rw [← h]
theorem indexL_ok {T : Tabs} (hT : TabsOk T) {ty : Tys} (hty : TyOk P ty) {r : Ren} {fr : Fr} {a : Act} (hf : FR r fr a) {t : TypeId} {x i : Operand} {v : V} (h : indexL T ty fr t x i = some v) :
    ∃ z, (Instr.indexAt t (a.eval x) (a.eval i)).run P w = .ok z w ∧ VV r v z := by
  obtain ⟨y, hy, h⟩ := ob_some h
  obtain ⟨k, hk, h⟩ := ob_some h
  obtain ⟨j, hj, h⟩ := ob_some h
  obtain ⟨n, hn, h⟩ := ob_some h
  obtain ⟨cs, hcs, h⟩ := ob_some h
  obtain ⟨E, hE, h⟩ := ob_some h
  cases hc : Nat.beq E.size cs.length <;> rw [hc] at h <;> cases h
  have hc := Nat.eq_of_beq_eq_true hc
  obtain rfl := isRv_some hk
  obtain ⟨e, he, hE'⟩ := elemOf_ok hty hE
  have hs := size_run (w := w) hty hE'
  obtain ⟨_, _, _, hv1, hv⟩ := evS_ok hf hy
  rw [← hv1] at hv
  have hi := num_ok hn (evS_ok hf hj)
  obtain ⟨b, off, m, c, el, h1, h2, h3, h4, h5⟩ := hT.el _ _ _ hcs
  obtain ⟨q, hq⟩ : ∃ q : Nat, NV n.2 = q := ⟨_, (Int.toNat_of_nonneg h2).symm⟩
  refine ⟨.pointer (some ⟨b, off + q * cs.length, none⟩), ?_, b, off + q * cs.length, el, by rw [hq] at h4; simpa using h4, rfl⟩
  rw [hv, h1, hi, hq]
  have hlt : q < m := by omega
  simp [Instr.indexAt, asIntOf, run_underlying he, hlt, hs, hc, Addr.add]
theorem fieldL_ok {ty : Tys} (hty : TyOk P ty) {r : Ren} {fr : Fr} {a : Act} (hf : FR r fr a) {s : TypeId} {x : Operand} {f : Nat} {v : V} (h : fieldL ty fr s x f = some v) :
    ∃ z, (Instr.fieldAt s (a.eval x) f).run P w = .ok z w ∧ VV r v z := by
  obtain ⟨y, hy, h⟩ := ob_some h
  obtain ⟨p, hp, h⟩ := ob_some h
  obtain ⟨q, hq, h⟩ := ob_some h
  cases hz : (q.2.size == 0) <;> rw [hz] at h <;> cases h
  obtain rfl := isPe_some hp
  obtain ⟨b, off, el, h1, h2⟩ := evS_ok hf hy
  obtain ⟨F, fd, hu, hff, ho, ht⟩ := fieldOf_ok hty hq
  have hs := size_run (w := w) hty ht
  have h0 : q.2.size ≠ 0 := by simpa using hz
  refine ⟨.pointer (some ⟨b, off + (p.2.2 + q.1), none⟩), ?_, b, off, el, h1, rfl⟩
  rw [h2]
  simp [Instr.fieldAt, run_underlying hu, hff, Instr.sureAddr, fieldPlace, hs, h0, ho, Addr.add, Nat.add_assoc]
theorem loadL_ok {T : Tabs} (hT : TabsOk T) (hw : Here w) {ty : Tys} (hty : TyOk P ty) {r : Ren} {fr : Fr} {a : Act} (hf : FR r fr a) {t : TypeId} {x : Operand} {v : V} (h : loadL T ty fr t x = some v) :
    ∃ z, (Instr.loadAt t (a.eval x)).run P w = .ok z w ∧ VV r v z := by
  obtain ⟨y, hy, h⟩ := ob_some h
  obtain ⟨p, hp, h⟩ := ob_some h
  obtain ⟨cs, hcs, h⟩ := ob_some h
  obtain ⟨U, hU, h⟩ := ob_some h
  obtain ⟨c, hc, h⟩ := ob_some h
  obtain ⟨m, hm, h⟩ := ob_some h
  cases h
  obtain rfl := isPe_some hp
  obtain ⟨b, off, el, h1, h2⟩ := evS_ok hf hy
  obtain ⟨_, _, _, _, el', _, _, _, h4, h5⟩ := hT.el _ _ _ hcs
  obtain rfl : el' = el := Option.some.inj (h4.1.symm.trans h1.1)
  have h5 : All2 (VS r) cs el' := h5.imp fun _ _ h => h r
  obtain ⟨hl, rfl⟩ := ext_eq hc
  have hcells : ∀ j u, ((el'.drop p.2.2).take U.size)[j]? = some u → w.cell? ⟨b, off + p.2.2 + j, none⟩ = some u := fun j u hj => by
    rw [Nat.add_assoc]
    refine h1.2 _ _ ?_ w hw
    rw [List.getElem?_take] at hj
    split at hj
    · rwa [List.getElem?_drop] at hj
    · cases hj
  have g1 : All2 (VS r) ((cs.drop p.2.2).take U.size) ((el'.drop p.2.2).take U.size) := (h5.drop _).take _
  obtain ⟨i, d, z, hi', hd, hz, k1, k2, _⟩ := hty t U hU
  have hsz : (sizeOf t).run P w = .ok U.size w := size_run hty hU
  have ha : (isAgg t).run P w = .ok U.d.agg w := by
    rw [k1]; unfold isAgg; cases d <;> simp [run_underlying hd, dOf, D.agg]
  rw [h2]
  have hlen : ((el'.drop p.2.2).take U.size).length = U.size := by
    have := g1.len
    rw [← this, List.length_take, List.length_drop]
    omega
  clear h5 h4 hy hp
  generalize (cs.drop p.2.2).take U.size = c at *
  generalize (el'.drop p.2.2).take U.size = us at *
  unfold Ty.mk' at hm
  cases hg : U.d.agg <;> simp only [hg, cond_true, cond_false] at hm
  · match c, us, g1, hm with
    | [y], [u], g1, hm =>
      cases hm
      have hc0 := hcells 0 u rfl
      simp only [Nat.add_zero] at hc0
      exact ⟨u, by simp [Instr.loadAt, Instr.sureAddr, loadVar, ha, hg, hc0], g1.1⟩
  · cases hm
    have hld : (loadCells ⟨b, off + p.2.2, none⟩ U.size).run P w = .ok us.toArray w := by
      rw [← hlen]
      exact run_loadCells_list w _ us (fun j v hv => by rw [Addr.add_lit]; exact hcells j v hv)
    exact ⟨.agg us.toArray, by simp [Instr.loadAt, Instr.sureAddr, loadVar, ha, hg, hsz, hld], _, rfl, g1⟩
theorem lenL_ok {T : Tabs} (hT : TabsOk T) {ty : Tys} (hty : TyOk P ty) {r : Ren} {fr : Fr} {a : Act} (hf : FR r fr a) {c : Call} {v : V} (h : lenL T ty fr c.argTypes.toList c.args.toList = some v) (o : TypeId) (cs : Array Bool) :
    ∃ u, (builtin .len c.argTypes o cs (c.args.map a.eval)).run P w = .ok (.value u) w ∧ VV r v u := by
  unfold lenL at h
  split at h
  · rename_i t ts x ht hx
    obtain ⟨E, hE, h⟩ := ob_some h
    obtain ⟨y, hy, h⟩ := ob_some h
    obtain ⟨k, hk, h⟩ := ob_some h
    obtain ⟨j, hj, h⟩ := ob_some h
    cases h
    obtain rfl := isRv_some hk
    obtain ⟨e, he, hE'⟩ := elemOf_ok hty hE
    obtain ⟨A, n, cc, h1, h2⟩ := hT.len _ _ hj
    obtain ⟨_, _, _, hv1, hv⟩ := evS_ok hf hy
    rw [← hv1, h1] at hv
    have e1 : c.argTypes = (t :: ts).toArray := by rw [← ht]
    have e2 : c.args = #[x] := by cases hca : c.args; rw [hca] at hx; simp at hx; rw [hx]
    refine ⟨.int .i64 n, ?_, by show _ = _; rw [h2]⟩
    rw [e1, e2]
    simp [builtin, Builtin.len_, hv, run_underlying he, goInt]
  · cases h
end
end Go.Proofs.Ytbebbbclhgjcbaa.Am
/-! One operation of the abstract machine, without memory. (No program in sight.) -/
namespace Go.Proofs.Ytbebbbclhgjcbaa.Am
set_option linter.unusedSectionVars false
variable [Base]

/-- one operation of the model: what it comes to -/
def OpR (P : Program) (o : Oper) (a : Act) (w : World) (K : Value → World → Prop) : Prop :=
  match (execOp a.eval o).run P w with
  | .ok (.value v) w' => K v w'
  | .ok .skip w' => K Go.undef w'
  | .ok (.enter f args) w' => Calls P f args w' fun e w'' => ∃ v, e = .returned v ∧ K v w''
  | _ => False
theorem OpR.wp {P : Program} {o : Oper} {a : Act} {w : World} {K : Value → World → Prop} (h : OpR P o a w K) {next : Act → World → Prop} {Q : Exit → Act → World → Prop}
    (hn : ∀ v w', K v w' → next (a.put o.dst v) w') : o.wp P a w next Q := by
  unfold OpR at h
  unfold Oper.wp
  generalize (execOp a.eval o).run P w = r at *
  cases r with
  | ok n w' =>
    cases n <;> simp only [Oper.upon] at h ⊢ <;> first
      | exact hn _ _ h
      | exact h.elim
      | exact Calls.mono h (fun e w'' he => by obtain ⟨v, rfl, hk⟩ := he; exact hn _ _ hk)
  | halt x w' => exact h.elim
theorem OpR.mono {P : Program} {o : Oper} {a : Act} {w : World} {K K' : Value → World → Prop} (h : OpR P o a w K) (hn : ∀ v w', K v w' → K' v w') : OpR P o a w K' := by
  unfold OpR at *
  generalize (execOp a.eval o).run P w = r at *
  cases r with
  | ok n w' =>
    cases n <;> simp only at h ⊢ <;> first
      | exact hn _ _ h
      | exact h.elim
      | exact Calls.mono h (fun e w'' he => by obtain ⟨v, rfl, hk⟩ := he; exact ⟨v, rfl, hn _ _ hk⟩)
  | halt x w' => exact h.elim
theorem OpR.val {P : Program} {o : Oper} {a : Act} {w w' : World} {K : Value → World → Prop} {v : Value} (h : (execOp a.eval o).run P w = .ok (.value v) w') (k : K v w') : OpR P o a w K := by
  unfold OpR; rw [h]; exact k
theorem OpR.skip {P : Program} {o : Oper} {a : Act} {w w' : World} {K : Value → World → Prop} (h : (execOp a.eval o).run P w = .ok .skip w') (k : K Go.undef w') : OpR P o a w K := by
  unfold OpR; rw [h]; exact k

section
variable {P : Program} {w : World} {ty : Tys}
theorem optInt_ok {r : Ren} {fr : Fr} {a : Act} (hf : FR r fr a) {x : Option Operand} {y : Option Int} (h : optInt fr x = some y) : OV y (x.map a.eval) := by
  cases x with
  | none => cases h; trivial
  | some x =>
    obtain ⟨n, hn, h⟩ := ob_some (show ob (evInt fr x) (fun n => some (some n)) = some y from h)
    cases h
    exact evInt_ok hf hn
theorem numO'_ok {r : Ren} {fr : Fr} {a : Act} (hf : FR r fr a) {x : Option Operand} {y : Option N} (h : numO' fr x = some y) : OV (y.map NV) (x.map a.eval) := by
  cases x with
  | none => cases h; trivial
  | some x =>
    obtain ⟨s, hs, h⟩ := ob_some (show ob (evS fr x) (fun x => ob x.num fun p => some (some p.2)) = some y from h)
    obtain ⟨p, hp, h⟩ := ob_some h
    cases h
    exact ⟨_, num_ok hp (evS_ok hf hs)⟩
theorem cutK_ok (hty : TyOk P ty) {r : Ren} {fr : Fr} {a : Act} (hf : FR r fr a) {t : TypeId} {x : Operand} {lo hi mx : Option Operand} {v : V} (h : cutK ty fr t x lo hi mx = some v) :
    ∃ z, (Instr.sliceAt t (a.eval x) (lo.map a.eval) (hi.map a.eval) (mx.map a.eval)).run P w = .ok z w ∧ VV r v z := by
  unfold cutK at h
  cases hc : (isNoneO mx && isStrT ty t) <;> rw [hc] at h <;> simp only [cond_true, cond_false] at h
  · cases h
  simp only [Bool.and_eq_true] at hc
  obtain ⟨hm, hs⟩ := hc
  cases mx with
  | some m => cases hm
  | none =>
    obtain ⟨p, hp, h⟩ := ob_some h
    obtain ⟨l, hl, h⟩ := ob_some h
    obtain ⟨b, hb, h⟩ := ob_some h
    obtain ⟨e, he, h⟩ := ob_some h
    obtain ⟨m, hm, h⟩ := ob_some h
    cases h
    obtain ⟨i, j, h1, h2, h3, h4, h5⟩ := Base.ok.ct _ _ _ _ (findCt_mem hm)
    have hu := txt_ok hl (evS_ok hf hp)
    have hi' : VS r (.str (strX Base.sig l)) (a.eval x) := hu
    have hlo : oi (b.map NV) 0 = (i : Int) := by
      cases b with
      | none => exact h1
      | some b => exact h1
    have hhi : oi (e.map NV) (strX Base.sig l).length = (j : Int) := by
      cases e with
      | none => have h2 : j = (strX Base.sig l).length := h2; show ((strX Base.sig l).length : Int) = j; omega
      | some e => exact h2
    have hbn : ∀ {a b : Nat}, a ≤ b → bnd (a : Int) b = some a := fun {a b} h => by
      show (bif Nat.ble a b then some a else none) = _
      rw [Nat.ble_eq_true_of_le h]
      rfl
    obtain ⟨z, hz, hz'⟩ := slice_ok (P := P) (w := w) (t := t) (mx := none) (vm := none) (s := .str (((strX Base.sig l).take j).drop i)) hty (numO'_ok hf hb) (numO'_ok hf he) trivial hi' (by
      show (bif isStrT ty t then cutStr (strX Base.sig l) (b.map NV) (e.map NV) else none) = _
      rw [hs]
      show (ob (bnd (oi (e.map NV) (strX Base.sig l).length) (strX Base.sig l).length) fun h => ob (bnd (oi (b.map NV) 0) h) fun k => some (S.str (((strX Base.sig l).take h).drop k))) = _
      rw [hhi, hbn h4, ob_some', hlo, hbn h3, ob_some'])
    refine ⟨z, hz, ?_⟩
    rw [h5] at hz'
    exact hz'
theorem aggOf_ok {r : Ren} {x : A} {cs : List S} (h : aggOf x = some cs) {u : Value} (hu : VA r x u) : ∃ us : List Value, u = .agg us.toArray ∧ All2 (VS r) cs us := by
  cases x with
  | s y => cases h
  | g l => cases h; exact hu
theorem toList_one {α : Type} {l : Array α} {x : α} (h : l.toList = [x]) : l = #[x] := by cases l; simp at h; rw [h]
theorem pureBuiltin_ok (hty : TyOk P ty) {r : Ren} {fr : Fr} {a : Act} (hf : FR r fr a) {c : Call} {b : Builtin} {v : V} (h : pureBuiltin ty fr c b = some v) (o : TypeId) (cs : Array Bool) :
    ∃ u, (builtin b c.argTypes o cs (c.args.map a.eval)).run P w = .ok (.value u) w ∧ VV r v u := by
  unfold pureBuiltin at h
  split at h
  · unfold lenOp at h
    split at h
    · rename_i t ts x ht hx
      obtain ⟨T, hT, h⟩ := ob_some h
      obtain ⟨y, hy, h⟩ := ob_some h
      have e1 : c.argTypes = (t :: ts).toArray := by rw [← ht]
      have e2 := toList_one hx
      rcases orO_some h with h | h
      · obtain ⟨n, hn, h⟩ := ob_some h
        cases h
        have := lenD_ok (w := w) hty hT (evA_ok hf hy) hn ts o
        refine ⟨.int .i64 n, ?_, rfl⟩
        rw [e1, e2]
        simp [builtin, this]
      · obtain ⟨z, hz, hz'⟩ := lenXs_ok (w := w) hty hT (evA_ok hf hy) h ts o
        refine ⟨z, ?_, hz'⟩
        rw [e1, e2]
        simp [builtin, hz]
    · cases h
  · obtain ⟨l, hl, h⟩ := ob_some h
    split at h
    · rename_i x l'
      have hm := mapS_ok hf hl
      cases hc : c.args.toList.map a.eval with
      | nil => rw [hc] at hm; exact hm.elim
      | cons u us =>
        rw [hc] at hm
        obtain ⟨s, hs, h⟩ := ob_some h
        cases h
        obtain ⟨z, hz, hz'⟩ := foldS_ok (P := P) (w := w) maxI_ok hm.1 hm.2 hs
        refine ⟨z, ?_, hz'⟩
        simp [builtin, Builtin.max_, hc, hz]
    · cases h
  · obtain ⟨l, hl, h⟩ := ob_some h
    split at h
    · rename_i x l'
      have hm := mapS_ok hf hl
      cases hc : c.args.toList.map a.eval with
      | nil => rw [hc] at hm; exact hm.elim
      | cons u us =>
        rw [hc] at hm
        obtain ⟨s, hs, h⟩ := ob_some h
        cases h
        obtain ⟨z, hz, hz'⟩ := foldS_ok (P := P) (w := w) minI_ok hm.1 hm.2 hs
        refine ⟨z, ?_, hz'⟩
        simp [builtin, Builtin.min_, hc, hz]
    · cases h
  · cases h

theorem how_pure {C : Ctx} (hty : TyOk P C.ty) (hTb : TabsOk C.tb) (hw0 : Here w) {r : Ren} {fr : Fr} {a : Act} (hf : FR r fr a) {h hw : Heap} {fl : Nat} {o : Oper} {v : V} (hh : how C fr h hw fl o.op = .p (some v)) :
    ∃ u, (execOp a.eval o).run P w = .ok (.value u) w ∧ VV r v u := by
  cases ho : o.op <;> simp only [ho, how] at hh <;> (try (cases hh; done)) <;> (try (simp only [How.p.injEq] at hh))
  case move x => exact ⟨a.eval x, by simp [execOp, ho], ev_ok hf hh⟩
  case assign x => exact ⟨a.eval x, by simp [execOp, ho], ev_ok hf hh⟩
  case pick c x y =>
    obtain ⟨s, hs, hh⟩ := ob_some hh
    obtain ⟨b, hb, hh⟩ := ob_some hh
    have e := isBool_ok hb (evS_ok hf hs)
    cases b
    · exact ⟨a.eval y, by simp [execOp, ho, e, asBool], ev_ok hf hh⟩
    · exact ⟨a.eval x, by simp [execOp, ho, e, asBool], ev_ok hf hh⟩
  case binOp op t x y t' =>
    rcases orO_some hh with hh | hh
    · obtain ⟨p, hp, hh⟩ := ob_some hh
      obtain ⟨q, hq, hh⟩ := ob_some hh
      obtain ⟨z, hz, hz'⟩ := bin_ok (w := w) hty (evA_ok hf hp) (evA_ok hf hq) hh
      refine ⟨z, ?_, hz'⟩
      unfold guarded at hz
      simp only [execOp, ho, Sem.run_bind] at hz ⊢
      rw [hz]
      rfl
    · have key : ∃ z, (guarded op t x y (a.eval x) (a.eval y)).run P w = .ok z w ∧ VV r v z := by
        rcases orO_some hh with hh | hh
        · exact addL_ok (w := w) (t := t) hTb hty hf hh
        · exact sumK_ok (w := w) (t := t) hty hf hh
      obtain ⟨z, hz, hz'⟩ := key
      refine ⟨z, ?_, hz'⟩
      unfold guarded at hz
      simp only [execOp, ho, Sem.run_bind] at hz ⊢
      rw [hz]
      rfl
  case unOp op t x =>
    obtain ⟨p, hp, hh⟩ := ob_some hh
    obtain ⟨z, hz, hz'⟩ := un_ok (P := P) (w := w) (evS_ok hf hp) hh
    exact ⟨z, by simp [execOp, ho, hz], hz'⟩
  case convert src dst x =>
    unfold howConv at hh
    split at hh
    · rename_i v' hv'
      simp only [How.p.injEq] at hh
      cases hh
      obtain ⟨X, hX, hv'⟩ := ob_some hv'
      obtain ⟨T, hT, hv'⟩ := ob_some hv'
      obtain ⟨p, hp, hv'⟩ := ob_some hv'
      obtain ⟨z, hz, hz'⟩ := convInt_ok (w := w) hty hX hT (evS_ok hf hp) hv'
      exact ⟨z, by simp [execOp, ho, hz], hz'⟩
    · cases hh
  case makeFunc fn first captured =>
    unfold makeFuncOp at hh
    split at hh
    · rename_i f hfirst
      obtain ⟨cs, hcs, hh⟩ := ob_some hh
      cases hh
      obtain ⟨h1, h2⟩ := mapPtr_ok hf hcs
      have e1 : first = #[] := by cases first; simpa using hfirst
      have e2 : captured.map a.eval = (cs.map fun p => Value.pointer (some (r.at p.1 p.2))).toArray := by
        rw [← h2]; cases captured; simp
      refine ⟨_, ?_, h1, rfl⟩
      subst e1
      simp [execOp, ho, Instr.makeFunc, e2]
    · cases hh
  case slice t x lo hi mx =>
    rcases orO_some hh with hh | hh
    · obtain ⟨p, hp, hh⟩ := ob_some hh
      obtain ⟨l, hl, hh⟩ := ob_some hh
      obtain ⟨i, hi', hh⟩ := ob_some hh
      obtain ⟨m, hm, hh⟩ := ob_some hh
      obtain ⟨s, hs, hh⟩ := ob_some hh
      cases hh
      obtain ⟨z, hz, hz'⟩ := slice_ok (w := w) hty (optInt_ok hf hl) (optInt_ok hf hi') (optInt_ok hf hm) (evS_ok hf hp) hs
      exact ⟨z, by simp [execOp, ho, hz], hz'⟩
    · obtain ⟨z, hz, hz'⟩ := cutK_ok (w := w) hty hf hh
      exact ⟨z, by simp [execOp, ho, hz], hz'⟩
  case fieldAddr s x f =>
    rcases orO_some hh with hh | hh
    · obtain ⟨p, hp, hh⟩ := ob_some hh
      obtain ⟨q, hq, hh⟩ := ob_some hh
      cases hz : (q.2.size == 0) <;> rw [hz] at hh <;> cases hh
      obtain ⟨h1, h2⟩ := evPtr_ok hf hp
      obtain ⟨z, hz1, hz2⟩ := fieldAddr_ok (w := w) (o := p.2) hty h1 hq hz
      exact ⟨z, by simp [execOp, ho, h2, hz1], hz2⟩
    · obtain ⟨z, hz1, hz2⟩ := fieldL_ok (w := w) hty hf hh
      exact ⟨z, by simp [execOp, ho, hz1], hz2⟩
  case field s x f =>
    obtain ⟨p, hp, hh⟩ := ob_some hh
    obtain ⟨cs, hcs, hh⟩ := ob_some hh
    obtain ⟨q, hq, hh⟩ := ob_some hh
    obtain ⟨c, hc, hh⟩ := ob_some hh
    obtain ⟨y, hy, hh⟩ := ob_some hh
    cases hh
    obtain ⟨us, h1, h2⟩ := aggOf_ok hcs (evA_ok hf hp)
    obtain ⟨z, hz1, hz2⟩ := field_ok (w := w) hty h2 hq hc hy
    exact ⟨z, by simp [execOp, ho, h1, hz1], hz2⟩
  case indexAddr t x i =>
    rcases orO_some hh with hh | hh
    · obtain ⟨p, hp, hh⟩ := ob_some hh
      obtain ⟨n, hn, hh⟩ := ob_some hh
      obtain ⟨z, hz1, hz2⟩ := indexAddrI_ok (w := w) hty (evS_ok hf hp) (evS_ok hf hn) hh
      exact ⟨z, by simp [execOp, ho, hz1], hz2⟩
    · obtain ⟨z, hz1, hz2⟩ := indexL_ok (w := w) hTb hty hf hh
      exact ⟨z, by simp [execOp, ho, hz1], hz2⟩
  case load t x =>
    unfold howLoad at hh
    split at hh
    · rename_i v' hv'
      simp only [How.p.injEq] at hh
      cases hh
      obtain ⟨z, hz1, hz2⟩ := loadL_ok hTb hw0 hty hf hv'
      exact ⟨z, by simp [execOp, ho, hz1], hz2⟩
    · cases hh
  case index t x i =>
    obtain ⟨p, hp, hh⟩ := ob_some hh
    obtain ⟨n, hn, hh⟩ := ob_some hh
    obtain ⟨k, hk⟩ := evInt_ok hf hn
    have hpa := evA_ok hf hp
    cases p with
    | s y =>
      obtain ⟨z, hz1, hz2⟩ := index_str_ok (w := w) (k := k) hty hpa hh
      exact ⟨z, by simp [execOp, ho, hk, hz1], hz2⟩
    | g l =>
      obtain ⟨us, h1, h2⟩ := hpa
      obtain ⟨z, hz1, hz2⟩ := index_arr_ok (w := w) (k := k) hty h2 hh
      exact ⟨z, by simp [execOp, ho, hk, h1, hz1], hz2⟩
  case extract t i =>
    obtain ⟨p, hp, hh⟩ := ob_some hh
    obtain ⟨z, hz1, hz2⟩ := extract_ok (P := P) (w := w) (ev_ok hf hp) hh
    exact ⟨z, by simp [execOp, ho, hz1], hz2⟩
  case build t ps =>
    obtain ⟨T, hT, hh⟩ := ob_some hh
    obtain ⟨qs, hqs, hh⟩ := ob_some hh
    obtain ⟨z, hz1, hz2⟩ := build_ok (w := w) hty hT (evParts_ok hf hqs) hh
    refine ⟨z, ?_, hz2⟩
    simp only [execOp, ho]
    rw [show (ps.map fun (x : Nat × Operand) => match x with | (i, x) => (i, a.eval x)) = (ps.toList.map fun p => (p.1, a.eval p.2)).toArray from by cases ps; simp]
    simp [hz1]
  case nilCheck x =>
    obtain ⟨p, hp, hh⟩ := ob_some hh
    cases hh
    obtain ⟨h1, h2⟩ := evPtr_ok hf hp
    exact ⟨_, by simp [execOp, ho, h2], h1, rfl⟩
  case call c =>
    cases hcal : c.callee <;> simp only [hcal, howCall] at hh <;> (try (cases hh; done))
    rename_i b
    unfold howBuiltin at hh
    split at hh
    · cases hh
    · cases hh
    · simp only [How.p.injEq] at hh
      rcases orO_some hh with hh | hh
      · obtain ⟨u, hu1, hu2⟩ := pureBuiltin_ok (w := w) hty hf hh o.type (c.args.map fun | .const _ => true | _ => false)
        refine ⟨u, ?_, hu2⟩
        simp only [execOp, ho, Sem.run_bind]
        simp only [resolve, hcal, Sem.run_pure, Result.andThen_ok, invoke]
        exact hu1
      · obtain ⟨u, hu1, hu2⟩ := lenL_ok (w := w) hTb hty hf hh o.type (c.args.map fun | .const _ => true | _ => false)
        refine ⟨u, ?_, hu2⟩
        simp only [execOp, ho, Sem.run_bind]
        simp only [resolve, hcal, Sem.run_pure, Result.andThen_ok, invoke]
        exact hu1
    · simp only [How.p.injEq] at hh
      obtain ⟨u, hu1, hu2⟩ := pureBuiltin_ok (w := w) hty hf hh o.type (c.args.map fun | .const _ => true | _ => false)
      refine ⟨u, ?_, hu2⟩
      simp only [execOp, ho, Sem.run_bind]
      simp only [resolve, hcal, Sem.run_pure, Result.andThen_ok, invoke]
      exact hu1
end
end Go.Proofs.Ytbebbbclhgjcbaa.Am
