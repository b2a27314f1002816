/- JumpUses: its loops, as the machine runs them. Numbers: 13 how many operands there are, 14 whether the place is no local, 15 what is set; in a round: 16 where it stands, 17 one more, 18 .. 22 the operand's cells, 23 .. 38 and 39 .. 54 what is used and moved before it, 55 .. 70 and 71 .. 86 behind it. JumpUses: its first piece, up to the list of operands, as the machine runs it: n arguments, whose memory is there. -/
import Derived.Test.YtaamdiknefodgaaDoorCopyJ
import Derived.Test.YtaamdiknefodgaaDoorJump5
import Derived.Test.YtaamdiknefodgaaDoorAmCut
import Derived.Test.YtaamdiknefodgaaDoorUses45
/-! JumpUses: its loops, as the machine runs them. Numbers: 13 how many operands there are, 14 whether the place is no local, 15 what is set; in a round: 16 where it stands, 17 one more, 18 .. 22 the operand's cells, 23 .. 38 and 39 .. 54 what is used and moved before it, 55 .. 70 and 71 .. 86 behind it. -/
namespace Go.Proofs.YtaamdiknefodgaaDoor.jumpUses
open Go.RowKit Go.Proofs.YtaamdiknefodgaaDoor.Am
set_option maxRecDepth 100000
set_option linter.unusedVariables false
set_option linter.unusedSectionVars false
@[reducible] noncomputable def fU : Func := Tryd.f8
noncomputable def body : Code := fU.body.getD .skip
noncomputable def nt : Nat := fU.ntmps
noncomputable def codeO : Code := loopAt fU 0
noncomputable def codeI : Code := loopAt fU 1
/-- the operand's cells, as the rvalue that uses it -/
def opX : List S := [.xi .u8 18, .xi .i64 19, .xi .i64 20, .xe [(21, 1)], .xi .u8 22]
def rvX : List S := [.int .u8 1, .int .u8 0, .int .u8 0] ++ (opX ++ [.int .u8 0, .int .i64 0, .int .i64 0, .bool false, .int .u8 0, .int .i64 0, .bool false, .int .u8 0])
/-- the jump's cells: its list is not looked at any more -/
def jX : List S := cellsX .top
/-- what the loops keep -/
noncomputable def frO : Fr := upd (upd (upd (upd (upd (upd (upd (upd (List.replicate nt V.any) 1 (V.s (.ptr 1 0))) 3 (V.s (.rv 2))) 5 (V.s (.xi .i64 15))) 7 (V.s (.rv 3))) 9 (V.s (.rv 1))) 10 (V.s (.xe [(14, 1)]))) 11 (V.s (.ptr 2 0))) 12 (V.s (.ptr 3 0))
def hpO (u m : List S) : Hp := [(3, ⟨m, true⟩), (2, ⟨u, true⟩), (1, ⟨jX, false⟩)]
noncomputable def hdO (i : S) (u m : List S) : St := ⟨upd frO 13 (V.s i), ⟨hpO u m, 4⟩⟩
noncomputable def s1O (u m : List S) : St := ⟨frO, ⟨hpO u m, 4⟩⟩
/-- what the kind (1 a number, 2 a copy, 3 a move) uses and moves -/
def resU (kd : Nat) : List S := bif Nat.beq kd 1 then [] else [.xi .i64 20]
def resM (kd : Nat) : List S := bif Nat.beq kd 3 then [.xi .i64 20] else []
def bitN (o p n : Nat) : List S := (List.range 16).map fun j => S.xe [(bif Nat.blt j n then p + j else o + j, 1)]
def uS (kd : Nat) : S := bif Nat.beq kd 1 then .nils else .sl 5 0 1 1 none
def mS (kd : Nat) : S := bif Nat.beq kd 3 then .sl 6 0 1 1 none else .nils
noncomputable def frI (kd : Nat) : Fr := upd (upd (upd frO 13 (V.s (.xi .i64 16))) 15 (V.s (uS kd))) 17 (V.s (mS kd))
noncomputable def hpI (kd n : Nat) : Hp := hpO (bitN 23 55 n) (bitN 39 71 n) ++ (bif Nat.beq kd 1 then [] else [(5, ⟨[.xi .i64 20], true⟩)]) ++ (bif Nat.beq kd 3 then [(6, ⟨[.xi .i64 20], true⟩)] else [])
def nxI (kd : Nat) : Nat := bif Nat.beq kd 1 then 5 else bif Nat.beq kd 3 then 7 else 6
noncomputable def hdI (kd n : Nat) : St := ⟨upd (frI kd) 19 (V.s (.int .i64 n)), ⟨hpI kd n, nxI kd⟩⟩
noncomputable def s1I (kd : Nat) : St := ⟨frI kd, ⟨hpI kd 16, nxI kd⟩⟩
/-! a round of the inner loop: bits before it, and where the local stands: 0 below, 1 there, 2 above -/
def ivE : List (Int × Int) := [(0, 12), (0, 1), (-9223372036854775808, 9223372036854775807), (-9223372036854775808, 9223372036854775807), (-9223372036854775808, 9223372036854775807), (0, 255), (-9223372036854775808, 9223372036854775807), (0, 15)]
noncomputable def LI (kd n bu bm o : Nat) : Lf :=
  let L := onlyB (onlyB (onlyB (Lf.startB [(true, kJ)] [] ((ivE ++ [(0, 1), (0, 255)]) ++ List.replicate 64 (0, 1))) 18 kd) (23 + n) bu) (39 + n) bm
  bif Nat.beq o 0 then L.hi 20 ((n : Int) - 1) else bif Nat.beq o 1 then onlyB L 20 n else L.lo 20 ((n : Int) + 1)
noncomputable def ctxI (L : Lf) : Ctx := ⟨tyOf Tryd.prog, @runs (L.know []) (tyOf Tryd.prog) (fnOf Tryd.prog) noneO 10 3, Tabs.nought, fun _ _ _ => none⟩
def isU (kd bu o : Nat) : Bool := Nat.beq bu 1 || (!(Nat.beq kd 1) && Nat.beq o 1)
def isM (kd bm o : Nat) : Bool := Nat.beq bm 1 || (Nat.beq kd 3 && Nat.beq o 1)
def thR (kd n bu bm o : Nat) : Th := [(.xe [(55 + n, 1)], .bool (isU kd bu o)), (.xe [(71 + n, 1)], .bool (isM kd bm o))]
noncomputable def stepI (kd n bu bm o : Nat) : Bool := tellsR ⟨87, 0, 4⟩ (thR kd n bu bm o) .normal (hdI kd (n + 1)) (@exec ((LI kd n bu bm o).know []) (ctxI (LI kd n bu bm o)) 0 10 codeI (hdI kd n))
noncomputable def lastI (kd : Nat) : Bool := tellsR ⟨87, 0, 4⟩ [] (.exit 2) (s1I kd) (@exec ((Lf.startB [(true, kJ)] [] []).know []) (ctxI (Lf.startB [(true, kJ)] [] [])) 0 10 codeI (hdI kd 16))
noncomputable def allI (kd n : Nat) : Bool := [0, 1].all fun bu => [0, 1].all fun bm => [0, 1, 2].all fun o => stepI kd n bu bm o
/-! a round of the outer loop -/
noncomputable def LO (kd : Nat) : Lf := { onlyB (Lf.startB [(true, kJ)] [] ((ivE ++ [(0, 1), (0, 255)]) ++ List.replicate 64 (0, 1))) 18 kd with lt := [(16, 13)] }
def tbX : Tabs := ⟨[(1, 13)], [(1, .x 16, opX)], [(16, 1, 17)]⟩
def tbE : Tabs := ⟨[(1, 13)], [], []⟩
noncomputable def rowsX (kd : Nat) : List Oracle := [listO 34 rvX (resU kd), listO 35 rvX (resM kd)]
noncomputable def rowI (kd : Nat) : Loops := rowL 23 ⟨87, 0, 4⟩ [] (hdI kd 0) (.exit 2) (s1I kd)
noncomputable def ctxO (L : Lf) (kd : Nat) : Ctx := ⟨tyOf Tryd.prog, @runs (L.know []) (tyOf Tryd.prog) (fnOf Tryd.prog) (orcs (rowsX kd)) 10 3, tbX, rowI kd⟩
def thO : Th := (.xi .i64 16, .xi .i64 17) :: ((List.range 16).map (fun j => (S.xe [(23 + j, 1)], S.xe [(55 + j, 1)])) ++ (List.range 16).map (fun j => (S.xe [(39 + j, 1)], S.xe [(71 + j, 1)])))
noncomputable def headO (i : Nat) : St := hdO (.xi .i64 i) (bitS 23) (bitS 39)
noncomputable def stepO (kd : Nat) : Bool := tellsR ⟨16, 0, 4⟩ thO .normal (headO 16) (@exec ((LO kd).know []) (ctxO (LO kd) kd) 0 10 codeO (headO 16))
/-- behind the last one: the number of the head is how many there are; what is used and moved lies at 16 and 32 -/
noncomputable def LEnd : Lf := Lf.startB [(true, kJ)] [] [(0, 12)]
noncomputable def ctxE (L : Lf) : Ctx := ⟨tyOf Tryd.prog, @runs (L.know []) (tyOf Tryd.prog) (fnOf Tryd.prog) noneO 10 3, tbE, fun _ _ _ => none⟩
def bitsE : Th := (List.range 16).map (fun j => (S.xe [(16 + j, 1)], S.xe [(23 + j, 1)])) ++ (List.range 16).map (fun j => (S.xe [(32 + j, 1)], S.xe [(39 + j, 1)]))
def bits0 : Th := (List.range 16).map (fun j => (S.xe [(23 + j, 1)], S.bool false)) ++ (List.range 16).map (fun j => (S.xe [(39 + j, 1)], S.bool false))
/-- what is set: the place's local, or none -/
def tv (loc : Bool) : S := bif loc then .xi .i64 10 else .int .i64 (-1)
noncomputable def outO (pt loc : Bool) : St := ⟨upd (upd frO 5 (V.s (tv loc))) 10 (V.s (.bool pt)), ⟨hpO (bitS 16) (bitS 32), 4⟩⟩
def thE (pt loc : Bool) : Th := (tv loc, .xi .i64 15) :: (.bool pt, .xe [(14, 1)]) :: bitsE
noncomputable def lastO (pt loc : Bool) : Bool := tellsR ⟨14, 0, 4⟩ (thE pt loc) (.exit 0) (outO pt loc) (@exec (LEnd.know []) (ctxE LEnd) 0 10 codeO (headO 13))
noncomputable def preO : Bool := fitSt ⟨87, 0, 4⟩ [(.xi .i64 13, .xi .i64 16)] (headO 13) (headO 16)
/-- how the loop is met -/
def thS (pt loc : Bool) : Th := (.xi .i64 16, .int .i64 0) :: (.xi .i64 15, tv loc) :: (.xe [(14, 1)], .bool pt) :: bits0
noncomputable def rowOut (pt loc : Bool) : Loops := rowL 15 ⟨14, 0, 4⟩ (thS pt loc) (headO 16) (.exit 0) (outO pt loc)
noncomputable def isRet (x : X) : Bool := match x with | .ret => true | _ => false
noncomputable def endOk (C : Ctx) (F : Func) (r : XS) : Bool := Option.rec false (fun p => isRet p.1 && (match mapO (resOf C p.2) F.results.toList with | some [.s (.bool true)] => true | _ => false)) r
/-! the second piece: lists 1 (the operands), 2 (what is used), 3 (what is moved); numbers 16 .. 47 the bits, 48 and 49 how many, then what -/
noncomputable def code2 : Code := (restC 12 body).getD .skip
noncomputable def hd2 (loc : Bool) : St := ⟨upd (upd (upd (upd (upd (List.replicate nt V.any) 1 (V.s (.ptr 1 0))) 3 (V.s (.rv 2))) 5 (V.s (tv loc))) 7 (V.s (.rv 3))) 9 (V.s (.rv 1)), ⟨[(1, ⟨jX, false⟩)], 2⟩⟩
/-- the class (1 a call to a local, 2 and 3 to a part, 4 a return, 5 a goto or a branch, 6 an abort), how many are used and moved, whether local 0 is among the operands' -/
structure Cu where
  c : Nat
  nu : Nat
  nm : Nat
  b : Nat
def Cu.pt (x : Cu) : Bool := Nat.beq x.c 2 || Nat.beq x.c 3
def Cu.loc (x : Cu) : Bool := Nat.beq x.c 1
noncomputable def bare (L : Lf) : Lf := onlyB (onlyB L 11 0) 12 0
noncomputable def Lcl (c : Nat) (L : Lf) : Lf := match c with
  | 1 => bare (onlyB ((L.hi 10 15).lo 10 0) 0 4)
  | 2 => onlyB (onlyB ((L.hi 10 15).lo 10 0) 0 4) 11 1
  | 3 => (onlyB (onlyB ((L.hi 10 15).lo 10 0) 0 4) 11 0).lo 12 1
  | 4 => bare (onlyB L 0 3)
  | 5 => bare (L.hi 0 2)
  | _ => bare (L.lo 0 5)
noncomputable def L2 (x : Cu) : Lf := onlyB (Lcl x.c (Lf.startB [(true, kJ)] [] ([(0, 12), (0, 1), (-9223372036854775808, 9223372036854775807)] ++ (List.replicate 32 (0, 1) ++ (((x.nu : Int), (x.nu : Int)) :: ((x.nm : Int), (x.nm : Int)) :: List.replicate (x.nu + x.nm) (0, 15)))))) 16 x.b
def cellU (x : Cu) (j : Nat) : S := bif Nat.beq j 0 then (bif Nat.beq x.c 4 || Nat.beq x.b 1 then .bool true else bif x.pt then .xe [(10, 0)] else .bool false) else bif x.pt then .xe [(10, (j : Int)), (16 + j, 1)] else .xe [(16 + j, 1)]
def cellsU (x : Cu) : List S := (List.range 16).map (cellU x)
def tb2 (x : Cu) : Tabs := ⟨[(1, 13), (2, 48), (3, 49)], (List.range x.nu).map (fun i => (2, .c (i : Int), [S.xi .i64 (50 + i)])) ++ (List.range x.nm).map (fun i => (3, .c (i : Int), [S.xi .i64 (50 + x.nu + i)])), []⟩
noncomputable def rows2 (x : Cu) : List Oracle := [alive06O, rowN 37 (cellsU x) (numsX 50 x.nu), rowN 37 (bitS 32) (numsX (50 + x.nu) x.nm)]
noncomputable def ctx2 (x : Cu) : Ctx := ⟨tyOf Tryd.prog, @runsL ((L2 x).know []) (tyOf Tryd.prog) (fnOf Tryd.prog) (orcs (rows2 x)) (tb2 x) (fun _ _ _ _ => none) 15 10, tb2 x, rowOut x.pt x.loc⟩
noncomputable def ok2 (x : Cu) : Bool := endOk (ctx2 x) fU (@exec ((L2 x).know []) (ctx2 x) 0 30 code2 (hd2 x.loc))
def boths (x : Nat × Nat × Nat) : List Cu := [⟨x.1, x.2.1, x.2.2, 0⟩, ⟨x.1, x.2.1, x.2.2, 1⟩]
end Go.Proofs.YtaamdiknefodgaaDoor.jumpUses
/-! JumpUses: its first piece, up to the list of operands, as the machine runs it: n arguments, whose memory is there. -/
namespace Go.Proofs.YtaamdiknefodgaaDoor.jumpUses
open Go.RowKit Go.Proofs.YtaamdiknefodgaaDoor.Am
set_option maxRecDepth 100000
set_option linter.unusedVariables false
set_option linter.unusedSectionVars false
noncomputable def stA (z n : Nat) : St := ⟨[V.a (.g (cellsX (slA z n)))] ++ List.replicate (nt - 1) Am.undef, ⟨heapA z n, 1⟩⟩
noncomputable def okA (z n : Nat) (h : Heap) : Bool := Nat.blt z 2 || holdsX h 0 (elsA n)
/-- a call with the jump, whose list lies there -/
noncomputable def rowH (F : FuncId) (z n : Nat) (v : V) : Oracle := fun f args h _ => bif f == F then (match args with | [.g xs] => bif sameL S.eqb (cellsX (slA z n)) xs && okA z n h then some (v, h) else none | _ => none) else none
noncomputable def listH (F : FuncId) (z n : Nat) (res : List S) : Oracle := fun f args h _ => bif f == F then (match args with | [.g xs] => bif sameL S.eqb (cellsX (slA z n)) xs && okA z n h then some (newV res h) else none | _ => none) else none
/-- the kind: 1 a goto, 2 a branch, 3 another -/
noncomputable def L1 (kc : Nat) : Lf := match kc with
  | 1 => onlyB (Lf.startB [(true, kJ)] [] []) 0 1
  | 2 => onlyB (Lf.startB [(true, kJ)] [] []) 0 2
  | _ => (Lf.startB [(true, kJ)] [] []).lo 0 3
structure C1 where
  kc : Nat
  z : Nat
  n : Nat
  loc : Bool
  nu : Nat
  nm : Nat
noncomputable def rows1 (x : C1) : List Oracle := [rowH 30 x.z x.n (m8 true), listH 18 x.z x.n (numsX (13 + 5 * x.n) x.nu), rowH 19 x.z x.n (.t [.s (tv x.loc), .s (.int .i64 0)]), listH 20 x.z x.n (numsX (13 + 5 * x.n + x.nu) x.nm)]
noncomputable def ctx1 (x : C1) : Ctx := ⟨tyOf Tryd.prog, @runs ((L1 x.kc).know []) (tyOf Tryd.prog) (fnOf Tryd.prog) (orcs (rows1 x)) 10 3, Tabs.nought, fun _ _ _ => none⟩
noncomputable def cut1 (x : C1) : Option St := @cutX ((L1 x.kc).know []) (ctx1 x) 0 10 12 body (stA x.z x.n)
noncomputable def hdT (loc : Bool) : St := ⟨upd (upd (List.replicate nt V.any) 1 (V.s (.ptr 1 0))) 5 (V.s (tv loc)), ⟨[(1, ⟨jX, false⟩)], 2⟩⟩
def nilS (x : S) : Bool := match x with | .nils => true | .sle => true | .sl _ _ 0 _ (some 0) => true | _ => false
/-- there lies a list of these -/
noncomputable def slotAt (s : St) (i : Nat) (cs : List S) (n z : Nat) : Bool := match nth s.fr i with
  | some (.a (.s x)) => bif Nat.beq n 0 then nilS x else (match x with | .sl b 0 m z' none => Nat.beq m n && Nat.beq z' z && holdsX s.h b cs | _ => false)
  | _ => false
def lCells (x : C1) : List S := bif Nat.beq x.kc 2 then cellsT 1 opK else elsA x.n
def lLen (x : C1) : Nat := bif Nat.beq x.kc 2 then 1 else x.n
noncomputable def ok1 (x : C1) : Bool := Option.rec false (fun s => frzSt ⟨13, 0, 0⟩ [] (hdT x.loc) s && (slotAt s 3 (numsX (13 + 5 * x.n) x.nu) x.nu 1 && (slotAt s 7 (numsX (13 + 5 * x.n + x.nu) x.nm) x.nm 1 && slotAt s 9 (lCells x) (lLen x) 5))) (cut1 x)
end Go.Proofs.YtaamdiknefodgaaDoor.jumpUses
