/- Jumps: which are valid: the runs. What a jump uses and moves: class by class. What a jump uses and moves: the runs of each class. -/
import Derived.Test.YthdcahkedlijpaaGreatJump2
namespace Go.Proofs.YthdcahkedlijpaaGreat.Am
open Go.RowKit
set_option maxRecDepth 100000
noncomputable def cj0L : Lf := L0J
noncomputable def cj1L : Lf := (cj0L.hi 0 (4 - 1))
noncomputable def cj2L : Lf := (cj1L.hi 0 (2 - 1))
def cj2T : Sp := (.cut 0 1 (.cut 6 0 .leaf (.cut 6 1 (.cut 9 1 .leaf .leaf) .leaf)) (.cut 7 0 (.cut 6 0 .leaf (.cut 6 1 (.cut 9 1 (.conj [(10, 0), (11, 0), (12, 0)] (.conj [(1, 0), (2, 0), (3, 0), (4, 0), (5, 0)] .leaf .leaf) .leaf) .leaf) .leaf)) (.cut 7 24 (.cut 8 0 (.cut 6 0 .leaf (.cut 6 1 (.cut 9 1 (.conj [(10, 0), (11, 0), (12, 0)] (.conj [(1, 0), (2, 0), (3, 0), (4, 0), (5, 0)] .leaf .leaf) .leaf) .leaf) .leaf)) (.cut 8 1 (.conj [(1, 0), (2, 0), (3, 0), (4, 0), (5, 0)] (.cut 6 0 .leaf (.cut 6 1 (.cut 9 1 (.conj [(10, 0), (11, 0), (12, 0)] .leaf .leaf) .leaf) .leaf)) (.cut 6 0 .leaf (.cut 6 1 (.cut 9 1 (.conj [(10, 0), (11, 0), (12, 0)] .leaf .leaf) .leaf) .leaf))) (.cut 6 0 .leaf (.cut 6 1 (.cut 9 1 (.conj [(10, 0), (11, 0), (12, 0)] (.conj [(1, 0), (2, 0), (3, 0), (4, 0), (5, 0)] .leaf .leaf) .leaf) .leaf) .leaf)))) (.cut 6 0 .leaf (.cut 6 1 (.cut 9 1 (.conj [(10, 0), (11, 0), (12, 0)] (.conj [(1, 0), (2, 0), (3, 0), (4, 0), (5, 0)] .leaf .leaf) .leaf) .leaf) .leaf)))))
noncomputable def cj3L : Lf := (cj1L.lo 0 2)
noncomputable def cj4L : Lf := (cj3L.hi 0 (3 - 1))
def cj4T : Sp := (.cut 7 0 (.cut 6 0 .leaf (.cut 6 1 (.cut 9 1 (.conj [(10, 0), (11, 0), (12, 0)] (.cut 14 1 .leaf .leaf) .leaf) .leaf) .leaf)) (.cut 7 24 (.cut 8 0 (.cut 6 0 .leaf (.cut 6 1 (.cut 9 1 (.conj [(10, 0), (11, 0), (12, 0)] (.cut 14 1 .leaf .leaf) .leaf) .leaf) .leaf)) (.cut 8 24 (.cut 14 1 (.cut 6 0 .leaf (.cut 6 1 (.cut 9 1 (.conj [(10, 0), (11, 0), (12, 0)] .leaf .leaf) .leaf) .leaf)) (.cut 6 0 .leaf (.cut 6 1 (.cut 9 1 (.conj [(10, 0), (11, 0), (12, 0)] .leaf .leaf) .leaf) .leaf))) (.cut 6 0 .leaf (.cut 6 1 (.cut 9 1 (.conj [(10, 0), (11, 0), (12, 0)] (.cut 14 1 .leaf .leaf) .leaf) .leaf) .leaf)))) (.cut 6 0 .leaf (.cut 6 1 (.cut 9 1 (.conj [(10, 0), (11, 0), (12, 0)] (.cut 14 1 .leaf .leaf) .leaf) .leaf) .leaf))))
noncomputable def cj5L : Lf := (cj3L.lo 0 3)
def cj5T : Sp := (.cut 7 0 (.cut 6 0 .leaf (.cut 6 1 (.cut 9 1 (.conj [(10, 0), (11, 0), (12, 0)] (.conj [(1, 0), (2, 0), (3, 0), (4, 0), (5, 0)] .leaf .leaf) .leaf) .leaf) .leaf)) (.cut 7 1 (.cut 8 0 (.cut 6 0 .leaf (.cut 6 1 (.cut 9 1 (.conj [(10, 0), (11, 0), (12, 0)] (.conj [(1, 0), (2, 0), (3, 0), (4, 0), (5, 0)] .leaf .leaf) .leaf) .leaf) .leaf)) (.cut 8 1 (.conj [(1, 0), (2, 0), (3, 0), (4, 0), (5, 0)] (.cut 6 0 .leaf (.cut 6 1 (.cut 9 1 (.conj [(10, 0), (11, 0), (12, 0)] .leaf .leaf) .leaf) .leaf)) (.cut 6 0 .leaf (.cut 6 1 (.cut 9 1 (.conj [(10, 0), (11, 0), (12, 0)] .leaf .leaf) .leaf) .leaf))) (.cut 6 0 .leaf (.cut 6 1 (.cut 9 1 (.conj [(10, 0), (11, 0), (12, 0)] (.conj [(1, 0), (2, 0), (3, 0), (4, 0), (5, 0)] .leaf .leaf) .leaf) .leaf) .leaf)))) (.cut 6 0 .leaf (.cut 6 1 (.cut 9 1 (.conj [(10, 0), (11, 0), (12, 0)] (.conj [(1, 0), (2, 0), (3, 0), (4, 0), (5, 0)] .leaf .leaf) .leaf) .leaf) .leaf))))
def cj3T : Sp := .cut 0 3 cj4T cj5T
def cj1T : Sp := .cut 0 2 cj2T cj3T
noncomputable def cj6L : Lf := (cj0L.lo 0 4)
noncomputable def cj7L : Lf := (cj6L.hi 0 (5 - 1))
noncomputable def cj8L : Lf := (cj7L.hi 7 (0 - 1))
def cj8T : Sp := (.cut 6 0 (.conj [(1, 0), (2, 0), (3, 0), (4, 0), (5, 0)] .leaf .leaf) (.cut 6 1 (.cut 9 1 (.conj [(1, 0), (2, 0), (3, 0), (4, 0), (5, 0)] (.cut 15 1 .leaf .leaf) .leaf) (.conj [(1, 0), (2, 0), (3, 0), (4, 0), (5, 0)] (.cut 9 9 (.cut 15 1 .leaf .leaf) .leaf) .leaf)) (.conj [(1, 0), (2, 0), (3, 0), (4, 0), (5, 0)] (.cut 6 8 (.cut 9 9 (.cut 15 1 .leaf .leaf) .leaf) .leaf) .leaf)))
noncomputable def cj9L : Lf := (cj7L.lo 7 0)
noncomputable def cj10L : Lf := (cj9L.hi 7 (24 - 1))
noncomputable def cj11L : Lf := (cj10L.hi 8 (0 - 1))
def cj11T : Sp := (.cut 6 0 (.conj [(1, 0), (2, 0), (3, 0), (4, 0), (5, 0)] .leaf .leaf) (.cut 6 1 (.cut 9 1 (.conj [(1, 0), (2, 0), (3, 0), (4, 0), (5, 0)] (.cut 15 1 .leaf .leaf) .leaf) (.conj [(1, 0), (2, 0), (3, 0), (4, 0), (5, 0)] (.cut 9 9 (.cut 15 1 .leaf .leaf) .leaf) .leaf)) (.conj [(1, 0), (2, 0), (3, 0), (4, 0), (5, 0)] (.cut 6 8 (.cut 9 9 (.cut 15 1 .leaf .leaf) .leaf) .leaf) .leaf)))
noncomputable def cj12L : Lf := (cj10L.lo 8 0)
def cj12T : Sp := (.cut 8 1 (.conj [(1, 0), (2, 0), (3, 0), (4, 0), (5, 0)] (.cut 6 0 .leaf (.cut 6 8 (.cut 9 9 (.cut 15 1 (.cut 6 1 (.cut 9 1 .leaf .leaf) .leaf) (.cut 9 1 (.cut 13 1 (.cut 6 1 .leaf .leaf) (.cut 6 1 .leaf .leaf)) (.cut 13 1 (.cut 6 1 .leaf .leaf) (.cut 6 1 .leaf .leaf)))) (.cut 6 1 .leaf .leaf)) .leaf)) (.cut 6 0 .leaf (.cut 6 1 (.cut 9 1 .leaf .leaf) .leaf))) (.cut 6 0 (.conj [(1, 0), (2, 0), (3, 0), (4, 0), (5, 0)] .leaf .leaf) (.cut 6 1 (.cut 9 1 (.conj [(1, 0), (2, 0), (3, 0), (4, 0), (5, 0)] (.cut 15 1 .leaf .leaf) .leaf) (.conj [(1, 0), (2, 0), (3, 0), (4, 0), (5, 0)] (.cut 9 9 (.cut 15 1 .leaf .leaf) .leaf) .leaf)) (.conj [(1, 0), (2, 0), (3, 0), (4, 0), (5, 0)] (.cut 6 8 (.cut 9 9 (.cut 15 1 .leaf .leaf) .leaf) .leaf) .leaf))))
def cj10T : Sp := .cut 8 0 cj11T cj12T
noncomputable def cj13L : Lf := (cj9L.lo 7 24)
def cj13T : Sp := (.cut 6 0 (.conj [(1, 0), (2, 0), (3, 0), (4, 0), (5, 0)] .leaf .leaf) (.cut 6 1 (.cut 9 1 (.conj [(1, 0), (2, 0), (3, 0), (4, 0), (5, 0)] (.cut 15 1 .leaf .leaf) .leaf) (.conj [(1, 0), (2, 0), (3, 0), (4, 0), (5, 0)] (.cut 9 9 (.cut 15 1 .leaf .leaf) .leaf) .leaf)) (.conj [(1, 0), (2, 0), (3, 0), (4, 0), (5, 0)] (.cut 6 8 (.cut 9 9 (.cut 15 1 .leaf .leaf) .leaf) .leaf) .leaf)))
def cj9T : Sp := .cut 7 24 cj10T cj13T
def cj7T : Sp := .cut 7 0 cj8T cj9T
noncomputable def cj14L : Lf := (cj6L.lo 0 5)
def cj14T : Sp := (.cut 0 6 (.cut 7 0 (.cut 6 0 .leaf (.cut 6 1 (.cut 9 1 (.conj [(10, 0), (11, 0), (12, 0)] (.conj [(1, 0), (2, 0), (3, 0), (4, 0), (5, 0)] .leaf .leaf) .leaf) .leaf) .leaf)) (.cut 7 1 (.cut 8 0 (.cut 6 0 .leaf (.cut 6 1 (.cut 9 1 (.conj [(10, 0), (11, 0), (12, 0)] (.conj [(1, 0), (2, 0), (3, 0), (4, 0), (5, 0)] .leaf .leaf) .leaf) .leaf) .leaf)) (.cut 8 1 (.conj [(1, 0), (2, 0), (3, 0), (4, 0), (5, 0)] (.cut 6 0 .leaf (.cut 6 1 (.cut 9 1 (.conj [(10, 0), (11, 0), (12, 0)] .leaf .leaf) .leaf) .leaf)) (.cut 6 0 .leaf (.cut 6 1 (.cut 9 1 (.conj [(10, 0), (11, 0), (12, 0)] .leaf .leaf) .leaf) .leaf))) (.cut 6 0 .leaf (.cut 6 1 (.cut 9 1 (.conj [(10, 0), (11, 0), (12, 0)] (.conj [(1, 0), (2, 0), (3, 0), (4, 0), (5, 0)] .leaf .leaf) .leaf) .leaf) .leaf)))) (.cut 6 0 .leaf (.cut 6 1 (.cut 9 1 (.conj [(10, 0), (11, 0), (12, 0)] (.conj [(1, 0), (2, 0), (3, 0), (4, 0), (5, 0)] .leaf .leaf) .leaf) .leaf) .leaf)))) (.cut 6 0 .leaf (.cut 6 1 (.cut 9 1 .leaf .leaf) .leaf)))
def cj6T : Sp := .cut 0 5 cj7T cj14T
def cj0T : Sp := .cut 0 4 cj1T cj6T
theorem jA_cj2 : (cj2T.leaves cj2L).all (jAt m8 87) = true := by kernel_rfl
theorem jA_cj4 : (cj4T.leaves cj4L).all (jAt m8 87) = true := by kernel_rfl
theorem jA_cj5 : (cj5T.leaves cj5L).all (jAt m8 87) = true := by kernel_rfl
theorem jA_cj8 : (cj8T.leaves cj8L).all (jAt m8 87) = true := by kernel_rfl
theorem jA_cj11 : (cj11T.leaves cj11L).all (jAt m8 87) = true := by kernel_rfl
theorem jA_cj12 : (cj12T.leaves cj12L).all (jAt m8 87) = true := by kernel_rfl
theorem jA_cj13 : (cj13T.leaves cj13L).all (jAt m8 87) = true := by kernel_rfl
theorem jA_cj14 : (cj14T.leaves cj14L).all (jAt m8 87) = true := by kernel_rfl
theorem jA_cj3 : (cj3T.leaves cj3L).all (jAt m8 87) = true := by
 have e : cj3T.leaves cj3L = cj4T.leaves cj4L ++ cj5T.leaves cj5L := rfl
 rw [e]
 simp only [List.all_append, jA_cj4, jA_cj5, Bool.and_self]
theorem jA_cj1 : (cj1T.leaves cj1L).all (jAt m8 87) = true := by
 have e : cj1T.leaves cj1L = cj2T.leaves cj2L ++ cj3T.leaves cj3L := rfl
 rw [e]
 simp only [List.all_append, jA_cj2, jA_cj3, Bool.and_self]
theorem jA_cj10 : (cj10T.leaves cj10L).all (jAt m8 87) = true := by
 have e : cj10T.leaves cj10L = cj11T.leaves cj11L ++ cj12T.leaves cj12L := rfl
 rw [e]
 simp only [List.all_append, jA_cj11, jA_cj12, Bool.and_self]
theorem jA_cj9 : (cj9T.leaves cj9L).all (jAt m8 87) = true := by
 have e : cj9T.leaves cj9L = cj10T.leaves cj10L ++ cj13T.leaves cj13L := rfl
 rw [e]
 simp only [List.all_append, jA_cj10, jA_cj13, Bool.and_self]
theorem jA_cj7 : (cj7T.leaves cj7L).all (jAt m8 87) = true := by
 have e : cj7T.leaves cj7L = cj8T.leaves cj8L ++ cj9T.leaves cj9L := rfl
 rw [e]
 simp only [List.all_append, jA_cj8, jA_cj9, Bool.and_self]
theorem jA_cj6 : (cj6T.leaves cj6L).all (jAt m8 87) = true := by
 have e : cj6T.leaves cj6L = cj7T.leaves cj7L ++ cj14T.leaves cj14L := rfl
 rw [e]
 simp only [List.all_append, jA_cj7, jA_cj14, Bool.and_self]
theorem jA_cj0 : (cj0T.leaves cj0L).all (jAt m8 87) = true := by
 have e : cj0T.leaves cj0L = cj1T.leaves cj1L ++ cj6T.leaves cj6L := rfl
 rw [e]
 simp only [List.all_append, jA_cj1, jA_cj6, Bool.and_self]
theorem jA_tests : TestsJ 87 v8 := jump_tests m8_ok (sp := cj0T) jA_cj0
theorem jV_cj2 : (cj2T.leaves cj2L).all (jAt mB 78) = true := by kernel_rfl
theorem jV_cj4 : (cj4T.leaves cj4L).all (jAt mB 78) = true := by kernel_rfl
theorem jV_cj5 : (cj5T.leaves cj5L).all (jAt mB 78) = true := by kernel_rfl
theorem jV_cj8 : (cj8T.leaves cj8L).all (jAt mB 78) = true := by kernel_rfl
theorem jV_cj11 : (cj11T.leaves cj11L).all (jAt mB 78) = true := by kernel_rfl
theorem jV_cj12 : (cj12T.leaves cj12L).all (jAt mB 78) = true := by kernel_rfl
theorem jV_cj13 : (cj13T.leaves cj13L).all (jAt mB 78) = true := by kernel_rfl
theorem jV_cj14 : (cj14T.leaves cj14L).all (jAt mB 78) = true := by kernel_rfl
theorem jV_cj3 : (cj3T.leaves cj3L).all (jAt mB 78) = true := by
 have e : cj3T.leaves cj3L = cj4T.leaves cj4L ++ cj5T.leaves cj5L := rfl
 rw [e]
 simp only [List.all_append, jV_cj4, jV_cj5, Bool.and_self]
theorem jV_cj1 : (cj1T.leaves cj1L).all (jAt mB 78) = true := by
 have e : cj1T.leaves cj1L = cj2T.leaves cj2L ++ cj3T.leaves cj3L := rfl
 rw [e]
 simp only [List.all_append, jV_cj2, jV_cj3, Bool.and_self]
theorem jV_cj10 : (cj10T.leaves cj10L).all (jAt mB 78) = true := by
 have e : cj10T.leaves cj10L = cj11T.leaves cj11L ++ cj12T.leaves cj12L := rfl
 rw [e]
 simp only [List.all_append, jV_cj11, jV_cj12, Bool.and_self]
theorem jV_cj9 : (cj9T.leaves cj9L).all (jAt mB 78) = true := by
 have e : cj9T.leaves cj9L = cj10T.leaves cj10L ++ cj13T.leaves cj13L := rfl
 rw [e]
 simp only [List.all_append, jV_cj10, jV_cj13, Bool.and_self]
theorem jV_cj7 : (cj7T.leaves cj7L).all (jAt mB 78) = true := by
 have e : cj7T.leaves cj7L = cj8T.leaves cj8L ++ cj9T.leaves cj9L := rfl
 rw [e]
 simp only [List.all_append, jV_cj8, jV_cj9, Bool.and_self]
theorem jV_cj6 : (cj6T.leaves cj6L).all (jAt mB 78) = true := by
 have e : cj6T.leaves cj6L = cj7T.leaves cj7L ++ cj14T.leaves cj14L := rfl
 rw [e]
 simp only [List.all_append, jV_cj7, jV_cj14, Bool.and_self]
theorem jV_cj0 : (cj0T.leaves cj0L).all (jAt mB 78) = true := by
 have e : cj0T.leaves cj0L = cj1T.leaves cj1L ++ cj6T.leaves cj6L := rfl
 rw [e]
 simp only [List.all_append, jV_cj1, jV_cj6, Bool.and_self]
theorem jV_tests : TestsJ 78 .bool := jump_tests mB_ok (sp := cj0T) jV_cj0
end Go.Proofs.YthdcahkedlijpaaGreat.Am
namespace Go.Proofs.YthdcahkedlijpaaGreat.Am
open Go.RowKit
set_option maxRecDepth 100000
set_option linter.unusedVariables false
set_option linter.unusedSectionVars false
abbrev selU (k : Int) : Bool := !decide (k = 1)
abbrev selM (k : Int) : Bool := decide (k = 3)
noncomputable def codeT : Code := loopAt Tryz.f88 0
noncomputable def anyT : List V := List.replicate Tryz.f88.ntmps V.any
noncomputable def hdT (mv : Bool) (i : Nat) : St := ⟨upd (upd (upd (upd (upd (upd anyT 1 (V.s (.bool mv))) 4 (V.s (.ptr 1 0))) 5 (V.s (.ptr 2 0))) 17 (V.s (.rv 0))) 18 (V.s (.xi .i64 9))) 19 (V.s (.xi .i64 i)), ⟨[(2, ⟨bitS 20, true⟩), (1, ⟨falses, true⟩)], 3⟩⟩
noncomputable def s1T (m : Nat) : St := ⟨upd (upd anyT 4 (V.s (.ptr 1 0))) 5 (V.s (.ptr 2 0)), ⟨[(2, ⟨bitS m, true⟩), (1, ⟨falses, true⟩)], 3⟩⟩
noncomputable def allB (code : Code) (hd : Nat → St) (sel : Int → Bool) (x : X) (s1 : St) : Bool := (stepB code hd sel 1 && stepB code hd sel 2 && stepB code hd sel 3) && (preB hd && lastB code hd 13 x s1)
theorem toldU_run : allB codeT (hdT false) selU (.exit 0) (s1T 13) = true := by kernel_rfl
theorem toldM_run : allB codeT (hdT true) selM (.exit 0) (s1T 13) = true := by kernel_rfl
noncomputable def zeroB (L : Lf) (o : Nat) : Nat → Lf
 | 0 => L
 | n + 1 => onlyB (zeroB L o n) (o + n) 0
def ivJ (nu : Nat) : List (Int × Int) := List.replicate 16 (0, 1) ++ List.replicate nu (0, 15)
noncomputable def LJ0 (nu : Nat) : Lf := (Lf.startB [(true, kJ)] [] (ivJ nu)).lo 9 0
noncomputable def LJ (c nu : Nat) : Lf := match c with
 | 1 => zeroB (onlyB (onlyB (LJ0 nu) 0 1) 9 0) 10 3
 | 2 => zeroB (onlyB (onlyB (LJ0 nu) 0 5) 9 0) 10 3
 | 3 => zeroB (onlyB (onlyB (LJ0 nu) 0 3) 9 0) 10 3
 | 4 => zeroB (onlyB (LJ0 nu) 0 4) 11 2
 | 5 => ((onlyB (onlyB (LJ0 nu) 0 4) 11 1).hi 10 15).lo 10 0
 | 6 => (((onlyB (onlyB (LJ0 nu) 0 4) 11 0).lo 12 1).hi 10 15).lo 10 0
 | 7 => ((zeroB (onlyB (onlyB (LJ0 nu) 0 2) 1 1) 9 4).hi 3 15).lo 3 0
 | 8 => ((zeroB (onlyB (onlyB (LJ0 nu) 0 2) 1 2) 9 4).hi 3 15).lo 3 0
 | _ => ((zeroB (onlyB (onlyB (LJ0 nu) 0 2) 1 3) 9 4).hi 3 15).lo 3 0
noncomputable def cjL (c nu : Nat) : List S := cellsJ.map (LJ c nu).nS
def cellU (c : Nat) : List S := (List.range 16).map fun (j : Nat) => match c with
 | 3 => bif Nat.beq j 0 then S.bool true else .xe [(13 + j, 1)]
 | 5 => .xe [(10, (j : Int)), (13 + j, 1)]
 | 6 => .xe [(10, (j : Int)), (13 + j, 1)]
 | 7 => .bool false
 | 8 => .xe [(3, (j : Int))]
 | 9 => .xe [(3, (j : Int))]
 | _ => .xe [(13 + j, 1)]
def cellM (c : Nat) : List S := (List.range 16).map fun (j : Nat) => match c with
 | 7 => S.bool false
 | 8 => .bool false
 | 9 => .xe [(3, (j : Int))]
 | _ => .xe [(13 + j, 1)]
noncomputable def rowsOJ (c nu : Nat) (cells : List S) : List Oracle :=
 [rowG 87 [.g (cjL c nu)] (m8 true), rowG 78 [.g (cjL c nu)] (mB true), rowN 90 cells (numsX 29 nu)]
noncomputable def loopsOJ (mv : Bool) (c : Nat) : FuncId → Loops :=
 rowsL (bif mv then [(88, rowL 7 ⟨13, 0, 1⟩ thI (hdT true 13) (.exit 0) (s1T 13))] else [(88, rowL 7 ⟨13, 0, 1⟩ thI (hdT false 13) (.exit 0) (s1T 13))])
noncomputable def runOJ (F : FuncId) (mv : Bool) (c nu : Nat) : R := @runsL ((LJ c nu).know []) (tyOf Tryz.prog) (fnOf Tryz.prog) (orcs (rowsOJ c nu (bif mv then cellM c else cellU c))) tbJ (loopsOJ mv c) 30 15 F (([.g cellsJ] : List A).map (LJ c nu).nA) ⟨[], 0⟩ 0
noncomputable def goodOJ (F : FuncId) (mv : Bool) (c nu : Nat) : Bool := Option.rec false (fun cs => sameL S.eqv (numsX 29 nu) cs) (rowAt (runOJ F mv c nu))
noncomputable def allOJ (F : FuncId) (mv : Bool) (c : Nat) : Bool := (List.range 17).all (goodOJ F mv c)
end Go.Proofs.YthdcahkedlijpaaGreat.Am
namespace Go.Proofs.YthdcahkedlijpaaGreat.Am
open Go.RowKit
set_option maxRecDepth 100000
theorem uA1 : allOJ 60 false 1 = true := by kernel_rfl
theorem uA2 : allOJ 60 false 2 = true := by kernel_rfl
theorem uA3 : allOJ 60 false 3 = true := by kernel_rfl
theorem uA4 : allOJ 60 false 4 = true := by kernel_rfl
theorem uA5 : allOJ 60 false 5 = true := by kernel_rfl
theorem uA6 : allOJ 60 false 6 = true := by kernel_rfl
theorem uA7 : allOJ 60 false 7 = true := by kernel_rfl
theorem uA8 : allOJ 60 false 8 = true := by kernel_rfl
theorem uA9 : allOJ 60 false 9 = true := by kernel_rfl
end Go.Proofs.YthdcahkedlijpaaGreat.Am
