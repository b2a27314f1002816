/- fnshape.twos, as the machine runs its loops. fnshape.twos, as the machine runs its loops: arguments, blocks, the last one. -/
import Derived.Test.YtbebbbclhgjcbaaFn7
namespace Go.Proofs.Ytbebbbclhgjcbaa.twos
open Go.RowKit Go.Proofs.Ytbebbbclhgjcbaa.Am
set_option maxRecDepth 100000
set_option linter.unusedVariables false
set_option linter.unusedSectionVars false
noncomputable def f : FuncId := 25
noncomputable def F : Func := Try.f25
noncomputable def fO : FuncId := 61
noncomputable def FO : Func := Try.f61
noncomputable def codeO : Code := loopAt F 0
noncomputable def codeI : Code := loopAt F 1
noncomputable def codeT : Code := loopAt F 2
noncomputable def codeA : Code := loopAt FO 0
noncomputable def on : S := .fn 39 [(2, 0), (3, 0)]
/-- block 1: which are two-phase; 2 all, 3 passes, 4 sets -/
def hpT (a p s i : Nat) : Hp := [(4, ⟨cells16 s, true⟩), (3, ⟨cells16 p, true⟩), (2, ⟨cells16 a, true⟩), (1, ⟨bits16 i, true⟩), (0, ⟨fnCells, true⟩)]
noncomputable def keep : List (Nat × S) := [(1, .ptr 0 0), (2, .ptr 1 0), (4, .ptr 2 0), (5, .ptr 3 0), (6, .ptr 4 0)]
noncomputable def keepO : List (Nat × S) := keep ++ [(7, on), (16, .rv 1), (17, .xi .i64 3)]
noncomputable def keepI : List (Nat × S) := keepO ++ [(18, .xi .i64 4), (9, .ptr 5 0)]
noncomputable def hpB (a p s i : Nat) : Hp := (5, ⟨blkCells, true⟩) :: hpT a p s i
noncomputable def hdO : St := ⟨frOf F.ntmps (keepO ++ [(18, .xi .i64 4)]), ⟨hpT 0 1 2 3, 5⟩⟩
noncomputable def hdI : St := ⟨frOf F.ntmps (keepI ++ [(23, .rv 3), (24, .xi .i64 7), (25, .xi .i64 21)]), ⟨hpB 0 1 2 3, 6⟩⟩
noncomputable def sNI : St := ⟨frOf F.ntmps keepI, ⟨hpB 4 5 6 7, 6⟩⟩
noncomputable def sNO : St := ⟨frOf F.ntmps keep, ⟨hpT 0 1 2 3, 5⟩⟩
/-! statements: rows 4 .. 10 all's states, 11 and 12 the others' -/
def placeE : List E := [isE 0 3, .and (.or (isE 0 2) (isE 0 4)) (.not (isE 20 1)), isE 0 1, .and (isE 0 1) (.or (isE 4 4) (isE 4 5)), ands [isE 0 1, .not (.or (isE 4 4) (isE 4 5)), .not (isE 7 1)], ands [isE 0 1, .not (.or (isE 4 1) (.or (isE 4 4) (isE 4 5))), .not (isE 12 1)]]
def stateOf : List Bool → Nat
  | [f, sa, p, rp, ra, rb] => bif f then 1 else bif sa then 2 else bif p then (bif rp then 4 else bif ra then (bif rb then 6 else 5) else bif rb then 7 else 3) else 0
  | _ => 0
def rowOf (s : Nat) : Nat := bif Nat.beq s 0 then 0 else 3 + s
def passE : E := ands [isE 0 1, isE 4 1, isE 7 3, isE 10 0, isE 11 0]
def twoE : E := ands [isE 0 1, isE 4 4, isE 6 3]
def at24 (e : E) : E := e.ren (24 + ·)
def setN : E := ands [at24 twoE, isE 26 0, isE 27 0, .not (isE 75 1)]
def trI : List Cnt := [⟨0, 4, 49, 285⟩, ⟨0, 5, 46, 287⟩, ⟨0, 6, 25, 289⟩, ⟨6, 7, 41, 291⟩, ⟨6, 8, 33, 293⟩, ⟨8, 9, 38, 295⟩, ⟨6, 10, 38, 297⟩, ⟨1, 11, 33, 299⟩, ⟨2, 12, 25, 301⟩]
def usI : List Upd := isU (.xi .i64 21) (.xi .i64 22) :: (pickU16 0 (placeE.map at24) (fun bs => rowOf (stateOf bs)) ++ (pickU16 1 [at24 passE] (fun bs => bif bs.headD false then 11 else 1) ++ (pickU16 2 [setN] (fun bs => bif bs.headD false then 12 else 2) ++ bitU16 3 3 25 (at24 twoE))))
def opK' (k : Nat) (t : HT) : HT := .by k 1 t (.by k 2 t t)
def useT : HT := .by 31 1 .leaf (.by 31 2 .leaf (.by 31 3 .leaf (.by 31 4 (.both 34 1 (.both 35 1 .leaf)) .leaf)))
def refT : HT := .by 30 3 .leaf (.by 30 4 (.both 26 1 (.both 27 1 (.both 75 1 .leaf))) .leaf)
def asT : HT := .on 28 1 .leaf (.on 28 2 useT (.on 28 3 (opK' 31 (opK' 36 .leaf)) (.on 28 4 (opK' 31 (opK' 36 .leaf)) (.on 28 5 refT (.on 28 6 .leaf .leaf)))))
def stT : HT := .on 24 1 .leaf (.on 24 2 asT (.on 24 3 (opK' 44 .leaf) (.on 24 4 .leaf (.on 24 5 (opK' 44 .leaf) .leaf))))
noncomputable def near16 (L : Lf) (i : Nat) : Lf := (L.lo i 0).hi i 15
noncomputable def LI (L : Lf) : Lf := near16 (near16 (near16 (near16 (near16 (near16 L 49) 25) 33) 38) 41) 46
noncomputable def L1 : Lf := LI (((Lf.of (fnIv ++ [])).pin 6 1).pin 23 1)
noncomputable def L3 : Lf := ((Lf.of (fnIv ++ [])).pin 6 1).pin 23 0
noncomputable def tbI : Tabs := tabF.app (tabB.app tabS)
theorem stepI : autoB (turnT (rigP libN tbI noLoops) f (trFx trI) [(okSN, true)] usI ⟨21, 0, 5⟩ codeI hdI .normal hdI) stT L1 = true := by kernel_rfl
theorem stopI : autoB (turnT (rigP libN (tabF.app tabB) noLoops) f fnFx [] (sameU16 4 0 ++ (sameU16 5 1 ++ (sameU16 6 2 ++ sameB16 7 3))) ⟨21, 0, 5⟩ codeI hdI (.exit 2) sNI) .leaf L3 = true := by kernel_rfl
end Go.Proofs.Ytbebbbclhgjcbaa.twos
namespace Go.Proofs.Ytbebbbclhgjcbaa.twos
open Go.RowKit Go.Proofs.Ytbebbbclhgjcbaa.Am
set_option maxRecDepth 100000
set_option linter.unusedVariables false
set_option linter.unusedSectionVars false
/-! a jump's arguments: rows 2 and 3 with this one -/
def hpA (a p s i : Nat) : Hp := [(4, ⟨cells16 s, true⟩), (3, ⟨cells16 p, true⟩), (2, ⟨cells16 a, true⟩), (1, ⟨bits16 i, true⟩), (0, ⟨fnCells, true⟩)]
noncomputable def hdA : St := ⟨frOf FO.ntmps [(1, .bool true), (2, on), (8, .rv 4), (9, .xi .i64 17), (10, .xi .i64 50)], ⟨[(3, ⟨cells16 1, true⟩), (2, ⟨cells16 0, true⟩), (4, ⟨cells16 4, true⟩), (1, ⟨bits16 5, true⟩), (0, ⟨fnCells, true⟩)], 8⟩⟩
noncomputable def sNA : St := ⟨frOf FO.ntmps [], ⟨hpT 10 11 6 7, 8⟩⟩
def trA : List Cnt := [⟨0, 2, 55, 173⟩, ⟨1, 3, 55, 175⟩]
def placedN : E := .not (isE 53 1)
def passN : E := ands [isE 53 3, isE 56 0, isE 57 0]
def usA : List Upd := isU (.xi .i64 50) (.xi .i64 51) :: (pickU16 0 [placedN] (fun bs => bif bs.headD false then 2 else 0) ++ (pickU16 1 [passN] (fun bs => bif bs.headD false then 3 else 1) ++ (sameU16 4 4 ++ sameB16 5 5)))
def opT' : HT := .by 53 1 .leaf (.by 53 2 .leaf (.by 53 3 .leaf (.by 53 4 (.both 56 1 (.both 57 1 .leaf)) .leaf)))
noncomputable def LA : Lf := near16 (((Lf.of (fnIv ++ [])).pin 6 1).pin 52 1) 55
noncomputable def LA0 : Lf := ((Lf.of (fnIv ++ [])).pin 6 1).pin 52 0
theorem stepA : autoB (turnT (rigP libN (tabF.app (tabB.app tabA)) noLoops) fO (trFx trA) [] usA ⟨21, 0, 5⟩ codeA hdA .normal hdA) opT' LA = true := by kernel_rfl
theorem stopA : autoB (turnT (rigP libN (tabF.app tabB) noLoops) fO fnFx [] (sameU16 10 0 ++ (sameU16 11 1 ++ (sameU16 6 4 ++ sameB16 7 5))) ⟨21, 0, 5⟩ codeA hdA (.exit 0) sNA) .leaf LA0 = true := by kernel_rfl
/-! blocks: rows 4 .. 7 behind the statements, 8 and 9 all with the branch's local or the call's, 10 and 11 behind the arguments -/
def trO : List Cnt := [⟨4, 8, 11, 269⟩, ⟨4, 9, 18, 271⟩]
def us0 : List Upd := isU (.xi .i64 21) (.int .i64 0) :: (sameU16 0 0 ++ (sameU16 1 1 ++ (sameU16 2 2 ++ sameB16 3 3)))
def us1 : List Upd := isU (.xi .i64 50) (.int .i64 0) :: (sameU16 0 9 ++ (sameU16 1 5 ++ (sameU16 4 6 ++ sameB16 5 7)))
noncomputable def rowI (K : Know) : Loops := rowL 8 ⟨21, 0, 5⟩ (@thU K us0) hdI (.exit 2) sNI
noncomputable def rowA (K : Know) : Loops := rowL 2 ⟨21, 0, 5⟩ (@thU K us1) hdA (.exit 0) sNA
noncomputable def rowsO (K : Know) : FuncId → Loops := rowsL [(f, rowI K), (fO, rowA K)]
def brN : E := .and (isE 8 2) (.not (isE 9 1))
def caN : E := isE 8 4
def usO : List Upd := isU (.xi .i64 4) (.xi .i64 5) :: (pickU16 0 [brN, caN] (fun bs => bif bs.headD false then 8 else bif (bs.drop 1).headD false then 10 else 4) ++ (pickU16 1 [caN] (fun bs => bif bs.headD false then 11 else 5) ++ (sameU16 2 6 ++ sameB16 3 7)))
def outT : HT := .on 8 2 .leaf (.on 8 3 (.by 9 1 .leaf (.by 9 2 .leaf .leaf)) (.on 8 4 .leaf (.on 8 5 .leaf .leaf)))
noncomputable def LO : Lf := near16 (near16 ((Lf.of (fnIv ++ [])).pin 6 1) 11) 18
noncomputable def LO0 : Lf := (Lf.of (fnIv ++ [])).pin 6 0
theorem stepO : autoB (turnT (rigP libN (tabF.app tabB) rowsO) f (trFx trO) [] usO ⟨4, 0, 3⟩ codeO hdO .normal hdO) outT LO = true := by kernel_rfl
theorem stopO : autoB (turnT (rigP libN tabF noLoops) f fnFx [] (sameU16 0 0 ++ (sameU16 1 1 ++ (sameU16 2 2 ++ sameB16 3 3))) ⟨4, 0, 3⟩ codeO hdO (.exit 0) sNO) .leaf LO0 = true := by kernel_rfl
/-! whether they are right -/
noncomputable def frT : Fr := upd sNO.fr 75 (V.g (bits16 3))
noncomputable def hdT (t : Nat) : St := ⟨upd frT 76 (V.s (.int .i64 t)), ⟨hpT 0 1 2 3, 5⟩⟩
noncomputable def sNT : St := ⟨frT, ⟨hpT 0 1 2 3, 5⟩⟩
noncomputable def sRT : St := ⟨upd frT 3 (V.s (.bool false)), ⟨hpT 0 1 2 3, 5⟩⟩
def goodE (t : Nat) : E := imp (isE (nm 3 t) 1) (ands [.lt 0 t, isE (nm 0 t) 2, isE (nm 1 t) 1, isE (nm 2 t) 1])
def goodT (t : Nat) : HT := .by (nm 3 t) 1 .leaf (.by 0 t (.by (nm 0 t) 2 .leaf (.by (nm 0 t) 3 (.by (nm 1 t) 1 .leaf (.by (nm 1 t) 2 (.by (nm 2 t) 1 .leaf (.by (nm 2 t) 2 .leaf .leaf)) .leaf)) .leaf)) .leaf)
def iv64 : Int × Int := (-9223372036854775808, 9223372036854775807)
noncomputable def LT : Lf := Lf.of (fnIv ++ (List.replicate 48 iv64 ++ List.replicate 16 ivB))
noncomputable def goodX (t : Nat) : Bool := autoB (turnT (rigP libN tabF noLoops) f fnFx [(goodE t, true)] [] ⟨141, 0, 3⟩ codeT (hdT t) .normal (hdT (t + 1))) (goodT t) LT
noncomputable def badX (t : Nat) : Bool := autoB (turnT (rigP libN tabF noLoops) f fnFx [(goodE t, false)] [] ⟨141, 0, 3⟩ codeT (hdT t) .ret sRT) (goodT t) LT
theorem stepT : ((List.range 16).all goodX) = true := by kernel_rfl
theorem badT : ((List.range 16).all badX) = true := by kernel_rfl
theorem stopT : autoB (turnT (rigP libN tabF noLoops) f fnFx [] [] ⟨141, 0, 3⟩ codeT (hdT 16) (.exit 4) sNT) .leaf LT = true := by kernel_rfl
/-! the function -/
noncomputable def rowF (K : Know) : Loops := rowL 5 ⟨4, 0, 3⟩ (@thU K (isU (.xi .i64 4) (.int .i64 0) :: (zeroU16 0 ++ (zeroU16 1 ++ (zeroU16 2 ++ falseU16 3))))) hdO (.exit 0) sNO
noncomputable def rowT (x : X) (s1 : St) (K : Know) : Loops := rowL 19 ⟨141, 0, 3⟩ (@thU K []) (hdT 0) x s1
noncomputable def rowsF (x : X) (s1 : St) (K : Know) : FuncId → Loops := rowsL [(f, rowF K), (f, rowT x s1 K)]
def ansV (r : Bool) : V := .t [.g (bits16 3), .s (.bool r)]
theorem goodF : autoB (callT (rigP libN tabF (rowsF (.exit 4) sNT)) f fnFx [] [] (fun _ => ansV true) [.g fnCells]) .leaf LT = true := by kernel_rfl
theorem badF : autoB (callT (rigP libN tabF (rowsF .ret sRT)) f fnFx [] [] (fun _ => ansV false) [.g fnCells]) .leaf LT = true := by kernel_rfl
theorem tagO : tagsOk (F.body.getD .skip) 0 5 = true := by kernel_rfl
theorem tagI : tagsOk codeO 0 8 = true := by kernel_rfl
theorem tagI2 : tagsOk (F.body.getD .skip) 1 8 = true := by kernel_rfl
theorem tagT : tagsOk (F.body.getD .skip) 2 19 = true := by kernel_rfl
theorem tagA : tagsOk (FO.body.getD .skip) 0 2 = true := by kernel_rfl
end Go.Proofs.Ytbebbbclhgjcbaa.twos
