/- FnshapeParts: the law's loop over blocks, as the machine runs it. -/
import Derived.Test.YtbebbbclhgjcbaaGreatFn31
namespace Go.Proofs.YtbebbbclhgjcbaaGreat.parts
open Go.RowKit Go.Proofs.YtbebbbclhgjcbaaGreat.Am
set_option maxRecDepth 100000
set_option linter.unusedVariables false
set_option linter.unusedSectionVars false
/-- 77 .. 92 what is called; 93 so many, 94 with the block; 95 the last used; 96 so many, 97 the last used, behind the statements; 98 the size; 99 .. what the jump uses -/
noncomputable def L3 : Lf := ((Lf.of (fnIv ++ [])).pin 6 1).pin 23 0
noncomputable def sNI : St := ⟨frOf F.ntmps (keep ++ [(7, xi 96), (8, xi 97), (10, xi 4), (11, .ptr 2 0)]), ⟨(2, ⟨blkCells, true⟩) :: hp, 3⟩⟩
theorem stopI : autoB (turnT (rigP libN (tabF.app tabB) noLoops) f fnFx [] ([isU (xi 98) (xi 98), isU (xi 96) (xi 93), isU (xi 97) (xi 95)] ++ sameB16 0 0) ⟨21, 0, 5⟩ codeI hdI (.exit 2) sNI) .leaf L3 = true := by kernel_rfl
def usS : List Upd := [isU (xi 21) (.int .i64 0), isU (xi 93) (xi 93), isU (xi 95) (xi 95), isU (xi 98) (xi 98)] ++ sameB16 0 0
noncomputable def rowI (K : Know) : Loops := rowL 15 ⟨21, 0, 5⟩ (@thU K usS) hdI (.exit 2) sNI
noncomputable def hdO : St := ⟨frOf F.ntmps (keep ++ [(7, xi 93), (8, xi 95), (10, xi 4)]), ⟨hp, 2⟩⟩
noncomputable def libO (ru : List S) : Know → Oracle := fun _ => orcs [rowGL 12 [.g jmpCells] ru, rowG 32 [.g jmpCells] (m8 true)]
def fxO : Fx := ⟨[(96, 1, 94)], fnFx.xt⟩
noncomputable def LO : Lf := ((((Lf.of (fnIv ++ (List.replicate 16 ivB ++ List.replicate 6 twos.iv64))).pin 6 1).lo 14 0).hi 14 7)
def usO (y : Nat) : List Upd := [isU (xi 4) (xi 5), isU (xi 93) (xi 94), isU (xi 95) (xi y), isU (xi 98) (xi 98)] ++ bitU16 0 0 14 (isE 8 4)
def jmE : E := ands [imp (.not (.or (isE 8 3) (isE 8 5))) (isE 72 1), imp (isE 8 2) (.or (isE 74 1) (isE 73 1))]
def tO' : HT := .on 8 2 (.both 72 1 .leaf) (.on 8 3 (.both 72 1 (.both 74 1 (.both 73 1 .leaf))) (.on 8 4 .leaf (.on 8 5 (.both 72 1 .leaf) (.on 8 6 .leaf (.both 72 1 .leaf)))))
noncomputable def stepO (ru : List S) (y : Nat) (L : Lf) : Bool := autoB (turnT (rigP (libO ru) (tabF.app tabB) fun K => rowsL [(f, rowI K)]) f fxO [(jmE, true)] (usO y) ⟨4, 0, 3⟩ codeO hdO .normal hdO) tO' L
theorem stepO0 : stepO [] 97 LO = true := by kernel_rfl
theorem tagI : tagsOk codeO 0 15 = true := by kernel_rfl
theorem tagI2 : tagsOk (F.body.getD .skip) 1 15 = true := by kernel_rfl
/-- behind the last block -/
noncomputable def L4 : Lf := (Lf.of (fnIv ++ [])).pin 6 0
noncomputable def sNO : St := ⟨frOf F.ntmps (keep ++ [(7, xi 98), (8, xi 95)]), ⟨hp, 2⟩⟩
theorem stopO : autoB (turnT (rigP libN tabF noLoops) f fnFx [] ([isU (xi 98) (xi 98), isU (xi 98) (xi 93), isU (xi 95) (xi 95)] ++ sameB16 0 0) ⟨4, 0, 3⟩ codeO hdO (.exit 0) sNO) .leaf L4 = true := by kernel_rfl
def usL : List Upd := [isU (xi 4) (.int .i64 0), isU (xi 93) (.int .i64 0), isU (xi 95) (.int .i64 0), isU (xi 98) (xi 98)] ++ falseU16 0
noncomputable def rowO (K : Know) : Loops := rowL 11 ⟨4, 0, 3⟩ (@thU K usL) hdO (.exit 0) sNO
end Go.Proofs.YtbebbbclhgjcbaaGreat.parts
