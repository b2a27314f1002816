/- Jumps: which are valid: the runs. What a jump uses and moves: class by class. What a jump uses and moves: the runs of each class. -/
import Derived.Test.YtnhnelgkcldkbaaGreatDoorJump2
namespace Go.Proofs.YtnhnelgkcldkbaaGreatDoor.Am
open Go.RowKit
set_option maxRecDepth 100000
noncomputable def cj0L : Lf := L0J
def cjS0 : Sp := .cut 6 1 (.cut 9 1 .leaf .leaf) .leaf
def cjS1 : Sp := .cut 6 0 .leaf cjS0
def cjS2 : Sp := .conj [(1,0),(2,0),(3,0),(4,0),(5,0)] .leaf .leaf
def cjS3 : Sp := .cut 6 0 .leaf (.cut 6 1 (.cut 9 1 (.conj [(10,0),(11,0),(12,0)] cjS2 .leaf) .leaf) .leaf)
def cjS4 : Sp := .cut 6 0 .leaf (.cut 6 1 (.cut 9 1 (.conj [(10,0),(11,0),(12,0)] .leaf .leaf) .leaf) .leaf)
def cjS5 : Sp := .cut 8 0 cjS3 (.cut 8 1 (.conj [(1,0),(2,0),(3,0),(4,0),(5,0)] cjS4 cjS4) cjS3)
def cjS6 : Sp := .cut 6 0 .leaf (.cut 6 1 (.cut 9 1 (.conj [(10,0),(11,0),(12,0)] (.cut 14 1 .leaf .leaf) .leaf) .leaf) .leaf)
def cjS7 : Sp := .cut 7 0 cjS3 (.cut 7 1 cjS5 cjS3)
def cjS8 : Sp := .cut 15 1 .leaf .leaf
def cjS9 : Sp := .cut 9 9 cjS8 .leaf
def cjS10 : Sp := .cut 6 0 cjS2 (.cut 6 1 (.cut 9 1 (.conj [(1,0),(2,0),(3,0),(4,0),(5,0)] cjS8 .leaf) (.conj [(1,0),(2,0),(3,0),(4,0),(5,0)] cjS9 .leaf)) (.conj [(1,0),(2,0),(3,0),(4,0),(5,0)] (.cut 6 8 cjS9 .leaf) .leaf))
def cjS11 : Sp := .cut 6 1 .leaf .leaf
def cjS12 : Sp := .cut 13 1 cjS11 cjS11
def cj0T : Sp := .cut 0 4 (.cut 0 2 (.cut 0 1 cjS1 (.cut 7 0 cjS3 (.cut 7 24 cjS5 cjS3))) (.cut 0 3 (.cut 7 0 cjS6 (.cut 7 24 (.cut 8 0 cjS6 (.cut 8 24 (.cut 14 1 cjS4 cjS4) cjS6)) cjS6)) cjS7)) (.cut 0 5 (.cut 7 0 cjS10 (.cut 7 24 (.cut 8 0 cjS10 (.cut 8 1 (.conj [(1,0),(2,0),(3,0),(4,0),(5,0)] (.cut 6 0 .leaf (.cut 6 8 (.cut 9 9 (.cut 15 1 cjS0 (.cut 9 1 cjS12 cjS12)) cjS11) .leaf)) cjS1) cjS10)) cjS10)) (.cut 0 6 cjS7 cjS1))
theorem jA_cjk0 : ckB (jAt m8 80) cj0T cj0L 20 0 = true := by kernel_rfl
theorem jA_cjk1 : ckB (jAt m8 80) cj0T cj0L 20 1 = true := by kernel_rfl
theorem jA_cjk2 : ckB (jAt m8 80) cj0T cj0L 20 2 = true := by kernel_rfl
theorem jA_cjk3 : ckB (jAt m8 80) cj0T cj0L 20 3 = true := by kernel_rfl
theorem jA_cjk4 : ckB (jAt m8 80) cj0T cj0L 20 4 = true := by kernel_rfl
theorem jA_cjk5 : ckB (jAt m8 80) cj0T cj0L 20 5 = true := by kernel_rfl
theorem jA_cjk6 : ckB (jAt m8 80) cj0T cj0L 20 6 = true := by kernel_rfl
theorem jA_cjk7 : ckB (jAt m8 80) cj0T cj0L 20 7 = true := by kernel_rfl
theorem jA_cjk8 : ckB (jAt m8 80) cj0T cj0L 20 8 = true := by kernel_rfl
theorem jA_cjk9 : ckB (jAt m8 80) cj0T cj0L 20 9 = true := by kernel_rfl
theorem jA_cjk10 : ckB (jAt m8 80) cj0T cj0L 20 10 = true := by kernel_rfl
theorem jA_cj0 : (cj0T.leaves cj0L).all (jAt m8 80) = true := all_chunks _ 20 11 _ (Nat.le_of_ble_eq_true (by kernel_rfl)) fun i hi => match i, hi with
  | 0, _ => jA_cjk0
  | 1, _ => jA_cjk1
  | 2, _ => jA_cjk2
  | 3, _ => jA_cjk3
  | 4, _ => jA_cjk4
  | 5, _ => jA_cjk5
  | 6, _ => jA_cjk6
  | 7, _ => jA_cjk7
  | 8, _ => jA_cjk8
  | 9, _ => jA_cjk9
  | 10, _ => jA_cjk10
  | i + 11, h => absurd h (by omega)
theorem jA_tests : TestsJ 80 v8 := jump_tests m8_ok (sp := cj0T) jA_cj0
theorem jP_cjk0 : ckB (jAt m8 35) cj0T cj0L 20 0 = true := by kernel_rfl
theorem jP_cjk1 : ckB (jAt m8 35) cj0T cj0L 20 1 = true := by kernel_rfl
theorem jP_cjk2 : ckB (jAt m8 35) cj0T cj0L 20 2 = true := by kernel_rfl
theorem jP_cjk3 : ckB (jAt m8 35) cj0T cj0L 20 3 = true := by kernel_rfl
theorem jP_cjk4 : ckB (jAt m8 35) cj0T cj0L 20 4 = true := by kernel_rfl
theorem jP_cjk5 : ckB (jAt m8 35) cj0T cj0L 20 5 = true := by kernel_rfl
theorem jP_cjk6 : ckB (jAt m8 35) cj0T cj0L 20 6 = true := by kernel_rfl
theorem jP_cjk7 : ckB (jAt m8 35) cj0T cj0L 20 7 = true := by kernel_rfl
theorem jP_cjk8 : ckB (jAt m8 35) cj0T cj0L 20 8 = true := by kernel_rfl
theorem jP_cjk9 : ckB (jAt m8 35) cj0T cj0L 20 9 = true := by kernel_rfl
theorem jP_cjk10 : ckB (jAt m8 35) cj0T cj0L 20 10 = true := by kernel_rfl
theorem jP_cj0 : (cj0T.leaves cj0L).all (jAt m8 35) = true := all_chunks _ 20 11 _ (Nat.le_of_ble_eq_true (by kernel_rfl)) fun i hi => match i, hi with
  | 0, _ => jP_cjk0
  | 1, _ => jP_cjk1
  | 2, _ => jP_cjk2
  | 3, _ => jP_cjk3
  | 4, _ => jP_cjk4
  | 5, _ => jP_cjk5
  | 6, _ => jP_cjk6
  | 7, _ => jP_cjk7
  | 8, _ => jP_cjk8
  | 9, _ => jP_cjk9
  | 10, _ => jP_cjk10
  | i + 11, h => absurd h (by omega)
theorem jP_tests : TestsJ 35 v8 := jump_tests m8_ok (sp := cj0T) jP_cj0
theorem jV_cjk0 : ckB (jAt mB 85) cj0T cj0L 20 0 = true := by kernel_rfl
theorem jV_cjk1 : ckB (jAt mB 85) cj0T cj0L 20 1 = true := by kernel_rfl
theorem jV_cjk2 : ckB (jAt mB 85) cj0T cj0L 20 2 = true := by kernel_rfl
theorem jV_cjk3 : ckB (jAt mB 85) cj0T cj0L 20 3 = true := by kernel_rfl
theorem jV_cjk4 : ckB (jAt mB 85) cj0T cj0L 20 4 = true := by kernel_rfl
theorem jV_cjk5 : ckB (jAt mB 85) cj0T cj0L 20 5 = true := by kernel_rfl
theorem jV_cjk6 : ckB (jAt mB 85) cj0T cj0L 20 6 = true := by kernel_rfl
theorem jV_cjk7 : ckB (jAt mB 85) cj0T cj0L 20 7 = true := by kernel_rfl
theorem jV_cjk8 : ckB (jAt mB 85) cj0T cj0L 20 8 = true := by kernel_rfl
theorem jV_cjk9 : ckB (jAt mB 85) cj0T cj0L 20 9 = true := by kernel_rfl
theorem jV_cjk10 : ckB (jAt mB 85) cj0T cj0L 20 10 = true := by kernel_rfl
theorem jV_cj0 : (cj0T.leaves cj0L).all (jAt mB 85) = true := all_chunks _ 20 11 _ (Nat.le_of_ble_eq_true (by kernel_rfl)) fun i hi => match i, hi with
  | 0, _ => jV_cjk0
  | 1, _ => jV_cjk1
  | 2, _ => jV_cjk2
  | 3, _ => jV_cjk3
  | 4, _ => jV_cjk4
  | 5, _ => jV_cjk5
  | 6, _ => jV_cjk6
  | 7, _ => jV_cjk7
  | 8, _ => jV_cjk8
  | 9, _ => jV_cjk9
  | 10, _ => jV_cjk10
  | i + 11, h => absurd h (by omega)
theorem jV_tests : TestsJ 85 .bool := jump_tests mB_ok (sp := cj0T) jV_cj0
end Go.Proofs.YtnhnelgkcldkbaaGreatDoor.Am
/-! What a jump uses and moves: class by class. -/
namespace Go.Proofs.YtnhnelgkcldkbaaGreatDoor.Am
open Go.RowKit
set_option maxRecDepth 100000
set_option linter.unusedVariables false
set_option linter.unusedSectionVars false

/-! the loops -/
abbrev selU (k : Int) : Bool := !decide (k = 1)
abbrev selM (k : Int) : Bool := decide (k = 3)
noncomputable def codeT : Code := loopAt Tryz.f81 0
noncomputable def anyT : List V := List.replicate Tryz.f81.ntmps V.any
noncomputable def hdT (mv : Bool) (i : Nat) : St := ⟨upd (upd (upd (upd (upd (upd anyT 1 (V.s (.bool mv))) 4 (V.s (.ptr 1 0))) 5 (V.s (.ptr 2 0))) 17 (V.s (.rv 0))) 18 (V.s (.xi .i64 9))) 19 (V.s (.xi .i64 i)), ⟨[(2, ⟨bitS 20, true⟩), (1, ⟨falses, true⟩)], 3⟩⟩
noncomputable def s1T (m : Nat) : St := ⟨upd (upd anyT 4 (V.s (.ptr 1 0))) 5 (V.s (.ptr 2 0)), ⟨[(2, ⟨bitS m, true⟩), (1, ⟨falses, true⟩)], 3⟩⟩
noncomputable def allB (code : Code) (hd : Nat → St) (sel : Int → Bool) (x : X) (s1 : St) : Bool := (stepB code hd sel 1 && stepB code hd sel 2 && stepB code hd sel 3) && (preB hd && lastB code hd 13 x s1)
theorem toldU_run : allB codeT (hdT false) selU (.exit 0) (s1T 13) = true := by kernel_rfl
theorem toldM_run : allB codeT (hdT true) selM (.exit 0) (s1T 13) = true := by kernel_rfl

/-! the classes: 1 goto, 2 abort, 3 return, 4 a call into a local, 5, 6 into a part, 7, 8, 9 a branch -/
noncomputable def zeroB (L : Lf) (o : Nat) : Nat → Lf
  | 0 => L
  | n + 1 => onlyB (zeroB L o n) (o + n) 0
def ivJ (nu : Nat) : List (Int × Int) := List.replicate 16 (0, 1) ++ List.replicate nu (0, 15)
noncomputable def LJ0 (nu : Nat) : Lf := (Lf.startB [(true, kJ)] [] (ivJ nu)).lo 9 0
noncomputable def LJ (c nu : Nat) : Lf := match c with
  | 1 => zeroB (onlyB (onlyB (LJ0 nu) 0 1) 9 0) 10 3
  | 2 => zeroB (onlyB (onlyB (LJ0 nu) 0 5) 9 0) 10 3
  | 3 => zeroB (onlyB (onlyB (LJ0 nu) 0 3) 9 0) 10 3
  | 4 => zeroB (onlyB (LJ0 nu) 0 4) 11 2
  | 5 => ((onlyB (onlyB (LJ0 nu) 0 4) 11 1).hi 10 15).lo 10 0
  | 6 => (((onlyB (onlyB (LJ0 nu) 0 4) 11 0).lo 12 1).hi 10 15).lo 10 0
  | 7 => ((zeroB (onlyB (onlyB (LJ0 nu) 0 2) 1 1) 9 4).hi 3 15).lo 3 0
  | 8 => ((zeroB (onlyB (onlyB (LJ0 nu) 0 2) 1 2) 9 4).hi 3 15).lo 3 0
  | _ => ((zeroB (onlyB (onlyB (LJ0 nu) 0 2) 1 3) 9 4).hi 3 15).lo 3 0
noncomputable def cjL (c nu : Nat) : List S := cellsJ.map (LJ c nu).nS
/-- the truth values that are listed -/
def cellU (c : Nat) : List S := (List.range 16).map fun (j : Nat) => match c with
  | 3 => bif Nat.beq j 0 then S.bool true else .xe [(13 + j, 1)]
  | 5 => .xe [(10, (j : Int)), (13 + j, 1)]
  | 6 => .xe [(10, (j : Int)), (13 + j, 1)]
  | 7 => .bool false
  | 8 => .xe [(3, (j : Int))]
  | 9 => .xe [(3, (j : Int))]
  | _ => .xe [(13 + j, 1)]
def cellM (c : Nat) : List S := (List.range 16).map fun (j : Nat) => match c with
  | 7 => S.bool false
  | 8 => .bool false
  | 9 => .xe [(3, (j : Int))]
  | _ => .xe [(13 + j, 1)]
noncomputable def rowsOJ (c nu : Nat) (cells : List S) : List Oracle :=
  [rowG 80 [.g (cjL c nu)] (m8 true), rowG 85 [.g (cjL c nu)] (mB true), rowN 83 cells (numsX 29 nu)]
noncomputable def loopsOJ (mv : Bool) (c : Nat) : FuncId → Loops :=
  rowsL (bif mv then [(81, rowL 7 ⟨13, 0, 1⟩ thI (hdT true 13) (.exit 0) (s1T 13))] else [(81, rowL 7 ⟨13, 0, 1⟩ thI (hdT false 13) (.exit 0) (s1T 13))])
noncomputable def runOJ (F : FuncId) (mv : Bool) (c nu : Nat) : R := @runsL ((LJ c nu).know []) (tyOf Tryz.prog) (fnOf Tryz.prog) (orcs (rowsOJ c nu (bif mv then cellM c else cellU c))) tbJ (loopsOJ mv c) 30 15 F (([.g cellsJ] : List A).map (LJ c nu).nA) ⟨[], 0⟩ 0
noncomputable def goodOJ (F : FuncId) (mv : Bool) (c nu : Nat) : Bool := Option.rec false (fun cs => sameL S.eqv (numsX 29 nu) cs) (rowAt (runOJ F mv c nu))
noncomputable def allOJ (F : FuncId) (mv : Bool) (c : Nat) : Bool := (List.range 17).all (goodOJ F mv c)
end Go.Proofs.YtnhnelgkcldkbaaGreatDoor.Am
/-! What a jump uses and moves: the runs of each class. -/
namespace Go.Proofs.YtnhnelgkcldkbaaGreatDoor.Am
open Go.RowKit
set_option maxRecDepth 100000
theorem uA1 : allOJ 30 false 1 = true := by kernel_rfl
theorem uA2 : allOJ 30 false 2 = true := by kernel_rfl
theorem uA3 : allOJ 30 false 3 = true := by kernel_rfl
theorem uA4 : allOJ 30 false 4 = true := by kernel_rfl
theorem uA5 : allOJ 30 false 5 = true := by kernel_rfl
theorem uA6 : allOJ 30 false 6 = true := by kernel_rfl
theorem uA7 : allOJ 30 false 7 = true := by kernel_rfl
theorem uA8 : allOJ 30 false 8 = true := by kernel_rfl
theorem uA9 : allOJ 30 false 9 = true := by kernel_rfl
theorem mA1 : allOJ 32 true 1 = true := by kernel_rfl
theorem mA2 : allOJ 32 true 2 = true := by kernel_rfl
theorem mA3 : allOJ 32 true 3 = true := by kernel_rfl
theorem mA4 : allOJ 32 true 4 = true := by kernel_rfl
theorem mA5 : allOJ 32 true 5 = true := by kernel_rfl
theorem mA6 : allOJ 32 true 6 = true := by kernel_rfl
theorem mA7 : allOJ 32 true 7 = true := by kernel_rfl
theorem mA8 : allOJ 32 true 8 = true := by kernel_rfl
theorem mA9 : allOJ 32 true 9 = true := by kernel_rfl
end Go.Proofs.YtnhnelgkcldkbaaGreatDoor.Am
