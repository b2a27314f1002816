/- FnshapeParts: the law's loop over statements, as the machine runs it. -/
import Derived.Test.YtbebbbclhgjcbaaGreatFn30
namespace Go.Proofs.YtbebbbclhgjcbaaGreat.parts
open Go.RowKit Go.Proofs.YtbebbbclhgjcbaaGreat.Am
set_option maxRecDepth 100000
set_option linter.unusedVariables false
set_option linter.unusedSectionVars false
noncomputable def f : FuncId := 3
noncomputable def F : Func := Tryz.f3
noncomputable def codeO : Code := loopAt F 0
noncomputable def codeI : Code := loopAt F 1
def xi (n : Nat) : S := .xi .i64 n
/-- 77 .. 92 what is called; 93 so many, 94 one more, 95 the last used, 98 the size, 99 .. what is used -/
noncomputable def keep : List (Nat × S) := [(1, .ptr 0 0), (2, .bool false), (3, .rv 2), (5, xi 98), (9, .ptr 1 0)]
def hp : Hp := [(1, ⟨bits16 0, true⟩), (0, ⟨fnCells, false⟩)]
noncomputable def hdI : St := ⟨frOf F.ntmps (keep ++ [(7, xi 93), (8, xi 95), (10, xi 4), (11, .ptr 2 0), (12, xi 21)]), ⟨(2, ⟨blkCells, true⟩) :: hp, 3⟩⟩
noncomputable def libS (res : List S) : Know → Oracle := fun _ => orcs [rowGL 9 [.g stmCells] res, rowG 26 [.g stmCells] (m8 true)]
def fxS : Fx := ⟨[(93, 1, 94)], fnFx.xt⟩
noncomputable def L1 : Lf := ((Lf.of (fnIv ++ (List.replicate 16 ivB ++ List.replicate 6 twos.iv64))).pin 6 1).pin 23 1
noncomputable def tbI : Tabs := tabF.app (tabB.app tabS)
def usI (y : Nat) : List Upd := [isU (xi 21) (xi 22), isU (xi 93) (xi 94), isU (xi 95) (xi y), isU (xi 98) (xi 98)] ++ sameB16 0 0
def tI : HT := .on 24 1 .leaf (.on 24 2 (.both 64 1 (.both 26 1 (.both 27 1 .leaf))) (.on 24 3 .leaf (.on 24 4 (.both 63 1 .leaf) .leaf)))
def givI : List (E × Bool) := [(okSN, true), (nearE.ren toS, true)]
noncomputable def stepI (res : List S) (y : Nat) (L : Lf) : Bool := autoB (turnT (rigP (libS res) tbI noLoops) f fxS givI (usI y) ⟨21, 0, 5⟩ codeI hdI .normal hdI) tI L
theorem step0 : stepI [] 95 L1 = true := by kernel_rfl
/-- more than before, the same, less -/
theorem stepM : ((List.range 3).all fun k => stepI (numsX 99 (k + 1)) (99 + k) (L1.less 95 (99 + k))) = true := by kernel_rfl
theorem stepE : ((List.range 3).all fun k => stepI (numsX 99 k ++ [xi 95]) 95 L1) = true := by kernel_rfl
theorem stepL : ((List.range 3).all fun k => stepI (numsX 99 (k + 1)) 95 (L1.less (99 + k) 95)) = true := by kernel_rfl
end Go.Proofs.YtbebbbclhgjcbaaGreat.parts
