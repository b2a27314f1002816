/- What a jump uses and moves: class by class. What a jump uses and moves: the runs of each class. -/
import Derived.Test.YthdcahkedlijpaaGreatJump2
import Derived.Test.YthdcahkedlijpaaGreatFn4
namespace Go.Proofs.YthdcahkedlijpaaGreat.Am
open Go.RowKit
set_option maxRecDepth 100000
set_option linter.unusedVariables false
set_option linter.unusedSectionVars false
abbrev selU (k : Int) : Bool := !decide (k = 1)
abbrev selM (k : Int) : Bool := decide (k = 3)
noncomputable def codeT : Code := loopAt Tryz.f88 0
noncomputable def anyT : List V := List.replicate Tryz.f88.ntmps V.any
noncomputable def hdT (mv : Bool) (i : Nat) : St := ⟨upd (upd (upd (upd (upd (upd anyT 1 (V.s (.bool mv))) 4 (V.s (.ptr 1 0))) 5 (V.s (.ptr 2 0))) 17 (V.s (.rv 0))) 18 (V.s (.xi .i64 9))) 19 (V.s (.xi .i64 i)), ⟨[(2, ⟨bitS 20, true⟩), (1, ⟨falses, true⟩)], 3⟩⟩
noncomputable def s1T (m : Nat) : St := ⟨upd (upd anyT 4 (V.s (.ptr 1 0))) 5 (V.s (.ptr 2 0)), ⟨[(2, ⟨bitS m, true⟩), (1, ⟨falses, true⟩)], 3⟩⟩
noncomputable def allB (code : Code) (hd : Nat → St) (sel : Int → Bool) (x : X) (s1 : St) : Bool := (stepB code hd sel 1 && stepB code hd sel 2 && stepB code hd sel 3) && (preB hd && lastB code hd 13 x s1)
theorem toldU_run : allB codeT (hdT false) selU (.exit 0) (s1T 13) = true := by kernel_rfl
theorem toldM_run : allB codeT (hdT true) selM (.exit 0) (s1T 13) = true := by kernel_rfl
noncomputable def zeroB (L : Lf) (o : Nat) : Nat → Lf
  | 0 => L
  | n + 1 => onlyB (zeroB L o n) (o + n) 0
def ivJ (nu : Nat) : List (Int × Int) := List.replicate 16 (0, 1) ++ List.replicate nu (0, 15)
noncomputable def LJ0 (nu : Nat) : Lf := (Lf.startB [(true, kJ)] [] (ivJ nu)).lo 9 0
noncomputable def LJ (c nu : Nat) : Lf := match c with
  | 1 => zeroB (onlyB (onlyB (LJ0 nu) 0 1) 9 0) 10 3
  | 2 => zeroB (onlyB (onlyB (LJ0 nu) 0 5) 9 0) 10 3
  | 3 => zeroB (onlyB (onlyB (LJ0 nu) 0 3) 9 0) 10 3
  | 4 => zeroB (onlyB (LJ0 nu) 0 4) 11 2
  | 5 => ((onlyB (onlyB (LJ0 nu) 0 4) 11 1).hi 10 15).lo 10 0
  | 6 => (((onlyB (onlyB (LJ0 nu) 0 4) 11 0).lo 12 1).hi 10 15).lo 10 0
  | 7 => ((zeroB (onlyB (onlyB (LJ0 nu) 0 2) 1 1) 9 4).hi 3 15).lo 3 0
  | 8 => ((zeroB (onlyB (onlyB (LJ0 nu) 0 2) 1 2) 9 4).hi 3 15).lo 3 0
  | _ => ((zeroB (onlyB (onlyB (LJ0 nu) 0 2) 1 3) 9 4).hi 3 15).lo 3 0
noncomputable def cjL (c nu : Nat) : List S := cellsJ.map (LJ c nu).nS
def cellU (c : Nat) : List S := (List.range 16).map fun (j : Nat) => match c with
  | 3 => bif Nat.beq j 0 then S.bool true else .xe [(13 + j, 1)]
  | 5 => .xe [(10, (j : Int)), (13 + j, 1)]
  | 6 => .xe [(10, (j : Int)), (13 + j, 1)]
  | 7 => .bool false
  | 8 => .xe [(3, (j : Int))]
  | 9 => .xe [(3, (j : Int))]
  | _ => .xe [(13 + j, 1)]
def cellM (c : Nat) : List S := (List.range 16).map fun (j : Nat) => match c with
  | 7 => S.bool false
  | 8 => .bool false
  | 9 => .xe [(3, (j : Int))]
  | _ => .xe [(13 + j, 1)]
noncomputable def rowsOJ (c nu : Nat) (cells : List S) : List Oracle :=
  [rowG 87 [.g (cjL c nu)] (m8 true), rowG 78 [.g (cjL c nu)] (mB true), rowN 90 cells (numsX 29 nu)]
noncomputable def loopsOJ (mv : Bool) (c : Nat) : FuncId → Loops :=
  rowsL (bif mv then [(88, rowL 7 ⟨13, 0, 1⟩ thI (hdT true 13) (.exit 0) (s1T 13))] else [(88, rowL 7 ⟨13, 0, 1⟩ thI (hdT false 13) (.exit 0) (s1T 13))])
noncomputable def runOJ (F : FuncId) (mv : Bool) (c nu : Nat) : R := @runsL ((LJ c nu).know []) (tyOf Tryz.prog) (fnOf Tryz.prog) (orcs (rowsOJ c nu (bif mv then cellM c else cellU c))) tbJ (loopsOJ mv c) 30 15 F (([.g cellsJ] : List A).map (LJ c nu).nA) ⟨[], 0⟩ 0
noncomputable def goodOJ (F : FuncId) (mv : Bool) (c nu : Nat) : Bool := Option.rec false (fun cs => sameL S.eqv (numsX 29 nu) cs) (rowAt (runOJ F mv c nu))
noncomputable def allOJ (F : FuncId) (mv : Bool) (c : Nat) : Bool := (List.range 17).all (goodOJ F mv c)
end Go.Proofs.YthdcahkedlijpaaGreat.Am
namespace Go.Proofs.YthdcahkedlijpaaGreat.Am
open Go.RowKit
set_option maxRecDepth 100000
theorem uA1 : allOJ 60 false 1 = true := by kernel_rfl
theorem uA2 : allOJ 60 false 2 = true := by kernel_rfl
theorem uA3 : allOJ 60 false 3 = true := by kernel_rfl
theorem uA4 : allOJ 60 false 4 = true := by kernel_rfl
theorem uA5 : allOJ 60 false 5 = true := by kernel_rfl
theorem uA6 : allOJ 60 false 6 = true := by kernel_rfl
theorem uA7 : allOJ 60 false 7 = true := by kernel_rfl
theorem uA8 : allOJ 60 false 8 = true := by kernel_rfl
theorem uA9 : allOJ 60 false 9 = true := by kernel_rfl
end Go.Proofs.YthdcahkedlijpaaGreat.Am
