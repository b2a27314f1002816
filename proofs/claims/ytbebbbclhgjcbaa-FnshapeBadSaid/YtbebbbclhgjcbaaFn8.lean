/- fnshape.twos, as the machine runs its loops. -/
import Derived.Test.YtbebbbclhgjcbaaFn7
namespace Go.Proofs.Ytbebbbclhgjcbaa.twos
open Go.RowKit Go.Proofs.Ytbebbbclhgjcbaa.Am
set_option maxRecDepth 100000
set_option linter.unusedVariables false
set_option linter.unusedSectionVars false
noncomputable def f : FuncId := 25
noncomputable def F : Func := Try.f25
noncomputable def fO : FuncId := 61
noncomputable def FO : Func := Try.f61
noncomputable def codeO : Code := loopAt F 0
noncomputable def codeI : Code := loopAt F 1
noncomputable def codeT : Code := loopAt F 2
noncomputable def codeA : Code := loopAt FO 0
noncomputable def on : S := .fn 39 [(2, 0), (3, 0)]
/-- block 1: which are two-phase; 2 all, 3 passes, 4 sets -/
def hpT (a p s i : Nat) : Hp := [(4, ⟨cells16 s, true⟩), (3, ⟨cells16 p, true⟩), (2, ⟨cells16 a, true⟩), (1, ⟨bits16 i, true⟩), (0, ⟨fnCells, true⟩)]
noncomputable def keep : List (Nat × S) := [(1, .ptr 0 0), (2, .ptr 1 0), (4, .ptr 2 0), (5, .ptr 3 0), (6, .ptr 4 0)]
noncomputable def keepO : List (Nat × S) := keep ++ [(7, on), (16, .rv 1), (17, .xi .i64 3)]
noncomputable def keepI : List (Nat × S) := keepO ++ [(18, .xi .i64 4), (9, .ptr 5 0)]
noncomputable def hpB (a p s i : Nat) : Hp := (5, ⟨blkCells, true⟩) :: hpT a p s i
noncomputable def hdO : St := ⟨frOf F.ntmps (keepO ++ [(18, .xi .i64 4)]), ⟨hpT 0 1 2 3, 5⟩⟩
noncomputable def hdI : St := ⟨frOf F.ntmps (keepI ++ [(23, .rv 3), (24, .xi .i64 7), (25, .xi .i64 21)]), ⟨hpB 0 1 2 3, 6⟩⟩
noncomputable def sNI : St := ⟨frOf F.ntmps keepI, ⟨hpB 4 5 6 7, 6⟩⟩
noncomputable def sNO : St := ⟨frOf F.ntmps keep, ⟨hpT 0 1 2 3, 5⟩⟩
/-! statements: rows 4 .. 10 all's states, 11 and 12 the others' -/
def placeE : List E := [isE 0 3, .and (.or (isE 0 2) (isE 0 4)) (.not (isE 20 1)), isE 0 1, .and (isE 0 1) (.or (isE 4 4) (isE 4 5)), ands [isE 0 1, .not (.or (isE 4 4) (isE 4 5)), .not (isE 7 1)], ands [isE 0 1, .not (.or (isE 4 1) (.or (isE 4 4) (isE 4 5))), .not (isE 12 1)]]
def stateOf : List Bool → Nat
  | [f, sa, p, rp, ra, rb] => bif f then 1 else bif sa then 2 else bif p then (bif rp then 4 else bif ra then (bif rb then 6 else 5) else bif rb then 7 else 3) else 0
  | _ => 0
def rowOf (s : Nat) : Nat := bif Nat.beq s 0 then 0 else 3 + s
def passE : E := ands [isE 0 1, isE 4 1, isE 7 3, isE 10 0, isE 11 0]
def twoE : E := ands [isE 0 1, isE 4 4, isE 6 3]
def at24 (e : E) : E := e.ren (24 + ·)
def setN : E := ands [at24 twoE, isE 26 0, isE 27 0, .not (isE 75 1)]
def trI : List Cnt := [⟨0, 4, 49, 285⟩, ⟨0, 5, 46, 287⟩, ⟨0, 6, 25, 289⟩, ⟨6, 7, 41, 291⟩, ⟨6, 8, 33, 293⟩, ⟨8, 9, 38, 295⟩, ⟨6, 10, 38, 297⟩, ⟨1, 11, 33, 299⟩, ⟨2, 12, 25, 301⟩]
def usI : List Upd := isU (.xi .i64 21) (.xi .i64 22) :: (pickU16 0 (placeE.map at24) (fun bs => rowOf (stateOf bs)) ++ (pickU16 1 [at24 passE] (fun bs => bif bs.headD false then 11 else 1) ++ (pickU16 2 [setN] (fun bs => bif bs.headD false then 12 else 2) ++ bitU16 3 3 25 (at24 twoE))))
def opK' (k : Nat) (t : HT) : HT := .by k 1 t (.by k 2 t t)
def useT : HT := .by 31 1 .leaf (.by 31 2 .leaf (.by 31 3 .leaf (.by 31 4 (.both 34 1 (.both 35 1 .leaf)) .leaf)))
def refT : HT := .by 30 3 .leaf (.by 30 4 (.both 26 1 (.both 27 1 (.both 75 1 .leaf))) .leaf)
def asT : HT := .on 28 1 .leaf (.on 28 2 useT (.on 28 3 (opK' 31 (opK' 36 .leaf)) (.on 28 4 (opK' 31 (opK' 36 .leaf)) (.on 28 5 refT (.on 28 6 .leaf .leaf)))))
def stT : HT := .on 24 1 .leaf (.on 24 2 asT (.on 24 3 (opK' 44 .leaf) (.on 24 4 .leaf (.on 24 5 (opK' 44 .leaf) .leaf))))
noncomputable def near16 (L : Lf) (i : Nat) : Lf := (L.lo i 0).hi i 15
noncomputable def LI (L : Lf) : Lf := near16 (near16 (near16 (near16 (near16 (near16 L 49) 25) 33) 38) 41) 46
noncomputable def L1 : Lf := LI (((Lf.of (fnIv ++ [])).pin 6 1).pin 23 1)
noncomputable def L3 : Lf := ((Lf.of (fnIv ++ [])).pin 6 1).pin 23 0
noncomputable def tbI : Tabs := tabF.app (tabB.app tabS)
theorem stepI : autoB (turnT (rigP libN tbI noLoops) f (trFx trI) [(okSN, true)] usI ⟨21, 0, 5⟩ codeI hdI .normal hdI) stT L1 = true := by kernel_rfl
theorem stopI : autoB (turnT (rigP libN (tabF.app tabB) noLoops) f fnFx [] (sameU16 4 0 ++ (sameU16 5 1 ++ (sameU16 6 2 ++ sameB16 7 3))) ⟨21, 0, 5⟩ codeI hdI (.exit 2) sNI) .leaf L3 = true := by kernel_rfl
end Go.Proofs.Ytbebbbclhgjcbaa.twos
