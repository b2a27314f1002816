/- StmtOnce: its cases. What is used and moved are sorted lists of numbers. -/
import Derived.Test.YtaamdiknefodgaaDoorAmLaw
import Derived.Test.YtaamdiknefodgaaDoorSrt5
import Derived.Test.YtaamdiknefodgaaDoorAlive05
import Derived.Test.YtaamdiknefodgaaDoorLists5MA
import Derived.Test.YtaamdiknefodgaaDoorUses5
namespace Go.Proofs.YtaamdiknefodgaaDoor.stmtOnce
open Go.RowKit Go.Proofs.YtaamdiknefodgaaDoor.Am
set_option linter.unusedVariables false
set_option linter.unusedSectionVars false
set_option maxRecDepth 100000
def gs : List Gp := [(true, kSt)]
/-- an entry of what is used: the place's local, or a number of its own -/
def idxE (pi : Option Nat) (j : Nat) : Nat := match pi with | some p => bif Nat.beq p j then 1 else 26 + j | none => 26 + j
def pairs (pi : Option Nat) (nu : Nat) : List (Nat × Nat) := (List.range nu).flatMap fun j => (List.range j).map fun i => (idxE pi i, idxE pi j)
def L0 (nu : Nat) (pi : Option Nat) : Lf := { Lf.startB gs [] (List.replicate nu (0, 15)) with lt := pairs pi nu }
noncomputable def only (L : Lf) (i : Nat) (c : Int) : Lf := (L.hi i c).lo i c
/-- the class: 0 none, 1 an assignment to a local, 2 print, 3 fresh, 4 assert, 5 an assignment to a part -/
noncomputable def Lc (c nu : Nat) (pi : Option Nat) : Lf :=
  bif Nat.beq c 1 then only (only (((only (L0 nu pi) 0 1).hi 1 15).lo 1 0) 2 0) 3 0
  else bif Nat.beq c 2 then only (L0 nu pi) 0 2
  else bif Nat.beq c 3 then ((only (L0 nu pi) 0 3).hi 25 15).lo 25 0
  else bif Nat.beq c 4 then only (L0 nu pi) 0 4
  else bif Nat.beq c 5 then (((only (L0 nu pi) 0 1).hi 1 15).lo 1 0).hi 3 2
  else L0 nu pi
def sp (c : Nat) : Sp := bif Nat.beq c 5 then (.cut 2 1 (.cut 3 1 .leaf .leaf) .leaf) else .leaf
def ents (pi : Option Nat) (ps : List Nat) : List S := ps.map fun j => S.xi .i64 (idxE pi j)
noncomputable def rows (L : Lf) (c nu : Nat) (pi : Option Nat) (ms : List Nat) : List Oracle :=
  [alive05O, cellO 45 (clL L 0 kSt) (m8 (!(Nat.beq c 0))), cellO 51 (clL L 0 kSt) (m8 (!(Nat.beq c 0)))]
  ++ (bif Nat.beq c 0 then [] else [listO 41 (clL L 0 kSt) (ents pi (List.range nu)), listO 43 (clL L 0 kSt) (ents pi ms)])
abbrev Cs := Nat × Nat × Option Nat × List Nat
noncomputable def good (c : Cs) (L : Lf) : Bool := tells true (@runs (L.knowF (strsB 26 0) noFacts) (tyOf Tryd.prog) (fnOf Tryd.prog) (orcs (rows L c.1 c.2.1 c.2.2.1 c.2.2.2)) 20 10 11 ((argsT 0 gs).map L.nA) ⟨[], 0⟩ 0)
/-- lists of numbers that go up, from o on, below o + k -/
def subsO : Nat → Nat → List (List Nat)
  | _, 0 => [[]]
  | o, k + 1 => subsO (o + 1) k ++ (subsO (o + 1) k).map (o :: ·)
def nuMax (c : Nat) : Nat := bif Nat.beq c 1 then 2 else bif Nat.beq c 3 then 0 else 1
def cases1 : List Cs := (0, 0, none, []) :: [1, 2, 3, 4].flatMap fun c => (List.range (nuMax c + 1)).flatMap fun nu => (subsO 0 nu).map fun ms => (c, nu, none, ms)
def casesP (nu p : Nat) : List Cs := (subsO 0 nu).map fun ms => (5, nu, some p, ms)
def cases5 : List Cs := casesP 1 0 ++ (casesP 2 0 ++ (casesP 2 1 ++ (casesP 3 0 ++ (casesP 3 1 ++ casesP 3 2))))
noncomputable def all (c : Cs) : Bool := ((sp c.1).leaves (Lc c.1 c.2.1 c.2.2.1)).all (good c)
end Go.Proofs.YtaamdiknefodgaaDoor.stmtOnce
