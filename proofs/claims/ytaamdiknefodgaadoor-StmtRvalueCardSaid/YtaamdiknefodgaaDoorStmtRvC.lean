/- StmtRvalue: its cases, its loop, as the machine runs them. -/
import Derived.Test.YtaamdiknefodgaaDoorAmLaw
import Derived.Test.YtaamdiknefodgaaDoorAmGo
import Derived.Test.YtaamdiknefodgaaDoorSrt5
import Derived.Test.YtaamdiknefodgaaDoorAlive05
import Derived.Test.YtaamdiknefodgaaDoorLists5MA
import Derived.Test.YtaamdiknefodgaaDoorUses5
import Derived.Test.YtaamdiknefodgaaDoorMoves4R
namespace Go.Proofs.YtaamdiknefodgaaDoor.stmtRvalue
open Go.RowKit Go.Proofs.YtaamdiknefodgaaDoor.Am
set_option linter.unusedVariables false
set_option linter.unusedSectionVars false
set_option maxRecDepth 100000
def gs : List Gp := [(true, kSt)]
/-- the class; how many are used; where the place's local is among them; which of them the rvalue uses; how many are moved -/
structure Cs where
  c : Nat
  nu : Nat
  pi : Option Nat
  rs : List Nat
  nm : Nat
def idxE (pi : Option Nat) (j : Nat) : Nat := match pi with | some p => bif Nat.beq p j then 1 else 26 + j | none => 26 + j
def pairs (pi : Option Nat) (nu : Nat) : List (Nat × Nat) := (List.range nu).flatMap fun j => (List.range j).map fun i => (idxE pi i, idxE pi j)
noncomputable def only (L : Lf) (i : Nat) (c : Int) : Lf := (L.hi i c).lo i c
def L0 (x : Cs) (more : List (Int × Int)) (lt : List (Nat × Nat)) : Lf := { Lf.startB gs [] (List.replicate (x.nu + x.nm) (0, 15) ++ more) with lt := lt ++ pairs x.pi x.nu }
/-- 1 an assignment to a local, 2 print, 3 fresh, 4 assert, 5, 6 an assignment to a part; 0 none -/
noncomputable def Lc (c : Nat) (L : Lf) : Lf := match c with
  | 1 => only (only (((only L 0 1).hi 1 15).lo 1 0) 2 0) 3 0
  | 2 => only L 0 2
  | 3 => only L 0 3
  | 4 => only L 0 4
  | 5 => only (((only L 0 1).hi 1 15).lo 1 0) 2 1
  | 6 => ((only (((only L 0 1).hi 1 15).lo 1 0) 2 0).hi 3 2).lo 3 1
  | _ => L
noncomputable def LX (x : Cs) : Lf := Lc x.c (L0 x [] [])
def q (x : Cs) : Nat := 26 + x.nu + x.nm
def ents (pi : Option Nat) (ps : List Nat) : List S := ps.map fun j => S.xi .i64 (idxE pi j)
def slN (b : Nat) (l : List S) : S := match l with | [] => .nils | l => .sl b 0 l.length 1 none
def one01 (n : Nat) : Nat := bif Nat.beq n 0 then 0 else 1
def t7 (x : Cs) : Nat := 1 + one01 x.nu + one01 x.nm
def bR (x : Cs) : Nat := t7 x + 1
def nxt (x : Cs) : Nat := bR x + one01 x.rs.length + one01 x.nm
noncomputable def sCells (x : Cs) : List S := clL (LX x) 0 kSt
noncomputable def anyF : List V := List.replicate Tryd.f12.ntmps V.any
noncomputable def hd (x : Cs) (i : S) : St :=
  ⟨upd (upd (upd (upd anyF 1 (V.s (.ptr 0 0))) 3 (V.s (slN 1 (ents x.pi (List.range x.nu))))) 8 (V.s (slN (bR x) (ents x.pi x.rs)))) 12 (V.s i),
    ⟨(0, ⟨sCells x, true⟩) :: ((bif Nat.beq x.nu 0 then [] else [(1, ⟨ents x.pi (List.range x.nu), true⟩)]) ++ (bif Nat.beq x.rs.length 0 then [] else [(bR x, ⟨ents x.pi x.rs, true⟩)])), nxt x⟩⟩
noncomputable def s1 (x : Cs) : St := ⟨anyF, ⟨[], nxt x⟩⟩
noncomputable def code : Code := loopAt Tryd.f12 0
noncomputable def ctxR (L : Lf) (i : Nat) (x : Cs) : Ctx := ⟨tyOf Tryd.prog, @runs (L.know []) (tyOf Tryd.prog) (fnOf Tryd.prog) noneO 10 5, ⟨[], [], [(i, 1, q x + 1)]⟩, fun _ _ _ => none⟩
def bd (x : Cs) : Bd := ⟨26 + x.nu + x.nm, 0, 0⟩
def thUp (x : Cs) : Th := [(.xi .i64 (q x), .xi .i64 (q x + 1))]
/-- a round: its number i is number n of these -/
noncomputable def stepAt (x : Cs) (n : Nat) (L : Lf) : Bool := tellsR (bd x) (thUp x) .normal (hd x (.xi .i64 (q x))) (@exec (L.know []) (ctxR L n x) 0 10 code (hd x (.xi .i64 n))) &&
  fitSt ⟨q x + 2, 0, 0⟩ [(.xi .i64 n, .xi .i64 (q x))] (hd x (.xi .i64 n)) (hd x (.xi .i64 (q x)))
def moreR : List (Int × Int) := [(0, 15), (0, 16)]
/-- number n lies behind the first p entries, before the others -/
def gap (x : Cs) (n p : Nat) : List (Nat × Nat) := (List.range x.nu).map fun j => bif Nat.blt j p then (idxE x.pi j, n) else (n, idxE x.pi j)
noncomputable def LEq (x : Cs) : Lf := Lc x.c (L0 x moreR [])
noncomputable def LGap (x : Cs) (p : Nat) : Lf := bif Nat.beq x.c 1 then (Lc x.c (L0 x moreR (gap x (q x) p))).differ (q x) 1 else Lc x.c (L0 x moreR (gap x (q x) p))
noncomputable def LLoc (x : Cs) (p : Nat) : Lf := Lc x.c (L0 x moreR (gap x 1 p))
noncomputable def lastAt (x : Cs) : Bool := tellsR (bd x) [] (.exit 1) (s1 x) (@exec ((L0 x [(16, 16)] []).know []) (ctxR (L0 x [(16, 16)] []) 0 x) 0 10 code (hd x (.xi .i64 (q x))))
noncomputable def loopOk (x : Cs) : Bool :=
  ((List.range x.nu).all fun j => stepAt x (idxE x.pi j) (LEq x)) && (((List.range (x.nu + 1)).all fun p => stepAt x (q x) (LGap x p)) && ((!(Nat.beq x.c 1) || (List.range (x.nu + 1)).all fun p => stepAt x 1 (LLoc x p)) && lastAt x))
def cases1 : List Cs := [(0, 0), (1, 0), (1, 1), (2, 0), (2, 1), (2, 2)].map fun (p : Nat × Nat) => ⟨1, p.1, none, List.range p.1, p.2⟩
def cases2 (c : Nat) : List Cs := [(0, 0), (1, 0), (1, 1)].map fun (p : Nat × Nat) => ⟨c, p.1, none, List.range p.1, p.2⟩
def cases5 (c : Nat) : List Cs := [(1, 0, [0], 2), (1, 0, [], 1), (2, 0, [0, 1], 3), (2, 0, [1], 2), (2, 1, [0, 1], 3), (2, 1, [0], 2), (3, 0, [1, 2], 3), (3, 1, [0, 2], 3), (3, 2, [0, 1], 3)].flatMap fun (p : Nat × Nat × List Nat × Nat) => (List.range p.2.2.2).map fun nm => ⟨c, p.1, some p.2.1, p.2.2.1, nm⟩
/-- the rvalue's cells -/
noncomputable def rCells (x : Cs) : List S := bif Nat.beq x.c 2 || Nat.beq x.c 4 then
    [.int .u8 1, .int .u8 0, .int .u8 0] ++ (clL (LX x) 20 kOp ++ [.int .u8 0, .int .i64 0, .int .i64 0, .bool false, .int .u8 0, .int .i64 0, .bool false, .int .u8 0])
  else clL (LX x) 4 kRv
noncomputable def rows (x : Cs) : List Oracle :=
  [alive05O, cellO 51 (sCells x) (m8 true), listO 41 (sCells x) (ents x.pi (List.range x.nu)), listO 43 (sCells x) (numsX (26 + x.nu) x.nm),
   listO 34 (rCells x) (ents x.pi x.rs), listO 35 (rCells x) (numsX (26 + x.nu) x.nm)]
noncomputable def loops (x : Cs) : FuncId → Loops := rowsL [(12, rowL 20 (bd x) [(.xi .i64 (q x), .int .i64 0)] (hd x (.xi .i64 (q x))) (.exit 1) (s1 x))]
noncomputable def lawOk (x : Cs) : Bool := tells true (@runsL ((LX x).know []) (tyOf Tryd.prog) (fnOf Tryd.prog) (orcs (rows x)) Tabs.nought (loops x) 20 10 12 ((argsT 0 gs).map (LX x).nA) ⟨[], 0⟩ 0)
def x3 : Cs := ⟨3, 0, none, [], 0⟩
def x0 : Cs := ⟨0, 0, none, [], 0⟩
noncomputable def rows0 : List Oracle := [alive05O, cellO 51 (sCells x0) (m8 false)]
noncomputable def law0 : Bool := tells true (@runsL ((LX x0).know []) (tyOf Tryd.prog) (fnOf Tryd.prog) (orcs rows0) Tabs.nought (fun _ _ _ _ => none) 20 10 12 ((argsT 0 gs).map (LX x0).nA) ⟨[], 0⟩ 0)
noncomputable def law3 : Bool := tells true (@runsL ((LX x3).know []) (tyOf Tryd.prog) (fnOf Tryd.prog) (orcs ((rows x3).take 4)) Tabs.nought (fun _ _ _ _ => none) 20 10 12 ((argsT 0 gs).map (LX x3).nA) ⟨[], 0⟩ 0)
end Go.Proofs.YtaamdiknefodgaaDoor.stmtRvalue
