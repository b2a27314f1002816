/- fnshape.twos, as the machine runs its loops: arguments, blocks, the last one. -/
import Derived.Test.YtbebbbclhgjcbaaFn8
namespace Go.Proofs.Ytbebbbclhgjcbaa.twos
open Go.RowKit Go.Proofs.Ytbebbbclhgjcbaa.Am
set_option maxRecDepth 100000
set_option linter.unusedVariables false
set_option linter.unusedSectionVars false
/-! a jump's arguments: rows 2 and 3 with this one -/
def hpA (a p s i : Nat) : Hp := [(4, ⟨cells16 s, true⟩), (3, ⟨cells16 p, true⟩), (2, ⟨cells16 a, true⟩), (1, ⟨bits16 i, true⟩), (0, ⟨fnCells, true⟩)]
noncomputable def hdA : St := ⟨frOf FO.ntmps [(1, .bool true), (2, on), (8, .rv 4), (9, .xi .i64 17), (10, .xi .i64 50)], ⟨[(3, ⟨cells16 1, true⟩), (2, ⟨cells16 0, true⟩), (4, ⟨cells16 4, true⟩), (1, ⟨bits16 5, true⟩), (0, ⟨fnCells, true⟩)], 8⟩⟩
noncomputable def sNA : St := ⟨frOf FO.ntmps [], ⟨hpT 10 11 6 7, 8⟩⟩
def trA : List Cnt := [⟨0, 2, 55, 173⟩, ⟨1, 3, 55, 175⟩]
def placedN : E := .not (isE 53 1)
def passN : E := ands [isE 53 3, isE 56 0, isE 57 0]
def usA : List Upd := isU (.xi .i64 50) (.xi .i64 51) :: (pickU16 0 [placedN] (fun bs => bif bs.headD false then 2 else 0) ++ (pickU16 1 [passN] (fun bs => bif bs.headD false then 3 else 1) ++ (sameU16 4 4 ++ sameB16 5 5)))
def opT' : HT := .by 53 1 .leaf (.by 53 2 .leaf (.by 53 3 .leaf (.by 53 4 (.both 56 1 (.both 57 1 .leaf)) .leaf)))
noncomputable def LA : Lf := near16 (((Lf.of (fnIv ++ [])).pin 6 1).pin 52 1) 55
noncomputable def LA0 : Lf := ((Lf.of (fnIv ++ [])).pin 6 1).pin 52 0
theorem stepA : autoB (turnT (rigP libN (tabF.app (tabB.app tabA)) noLoops) fO (trFx trA) [] usA ⟨21, 0, 5⟩ codeA hdA .normal hdA) opT' LA = true := by kernel_rfl
theorem stopA : autoB (turnT (rigP libN (tabF.app tabB) noLoops) fO fnFx [] (sameU16 10 0 ++ (sameU16 11 1 ++ (sameU16 6 4 ++ sameB16 7 5))) ⟨21, 0, 5⟩ codeA hdA (.exit 0) sNA) .leaf LA0 = true := by kernel_rfl
/-! blocks: rows 4 .. 7 behind the statements, 8 and 9 all with the branch's local or the call's, 10 and 11 behind the arguments -/
def trO : List Cnt := [⟨4, 8, 11, 269⟩, ⟨4, 9, 18, 271⟩]
def us0 : List Upd := isU (.xi .i64 21) (.int .i64 0) :: (sameU16 0 0 ++ (sameU16 1 1 ++ (sameU16 2 2 ++ sameB16 3 3)))
def us1 : List Upd := isU (.xi .i64 50) (.int .i64 0) :: (sameU16 0 9 ++ (sameU16 1 5 ++ (sameU16 4 6 ++ sameB16 5 7)))
noncomputable def rowI (K : Know) : Loops := rowL 8 ⟨21, 0, 5⟩ (@thU K us0) hdI (.exit 2) sNI
noncomputable def rowA (K : Know) : Loops := rowL 2 ⟨21, 0, 5⟩ (@thU K us1) hdA (.exit 0) sNA
noncomputable def rowsO (K : Know) : FuncId → Loops := rowsL [(f, rowI K), (fO, rowA K)]
def brN : E := .and (isE 8 2) (.not (isE 9 1))
def caN : E := isE 8 4
def usO : List Upd := isU (.xi .i64 4) (.xi .i64 5) :: (pickU16 0 [brN, caN] (fun bs => bif bs.headD false then 8 else bif (bs.drop 1).headD false then 10 else 4) ++ (pickU16 1 [caN] (fun bs => bif bs.headD false then 11 else 5) ++ (sameU16 2 6 ++ sameB16 3 7)))
def outT : HT := .on 8 2 .leaf (.on 8 3 (.by 9 1 .leaf (.by 9 2 .leaf .leaf)) (.on 8 4 .leaf (.on 8 5 .leaf .leaf)))
noncomputable def LO : Lf := near16 (near16 ((Lf.of (fnIv ++ [])).pin 6 1) 11) 18
noncomputable def LO0 : Lf := (Lf.of (fnIv ++ [])).pin 6 0
theorem stepO : autoB (turnT (rigP libN (tabF.app tabB) rowsO) f (trFx trO) [] usO ⟨4, 0, 3⟩ codeO hdO .normal hdO) outT LO = true := by kernel_rfl
theorem stopO : autoB (turnT (rigP libN tabF noLoops) f fnFx [] (sameU16 0 0 ++ (sameU16 1 1 ++ (sameU16 2 2 ++ sameB16 3 3))) ⟨4, 0, 3⟩ codeO hdO (.exit 0) sNO) .leaf LO0 = true := by kernel_rfl
/-! whether they are right -/
noncomputable def frT : Fr := upd sNO.fr 75 (V.g (bits16 3))
noncomputable def hdT (t : Nat) : St := ⟨upd frT 76 (V.s (.int .i64 t)), ⟨hpT 0 1 2 3, 5⟩⟩
noncomputable def sNT : St := ⟨frT, ⟨hpT 0 1 2 3, 5⟩⟩
noncomputable def sRT : St := ⟨upd frT 3 (V.s (.bool false)), ⟨hpT 0 1 2 3, 5⟩⟩
def goodE (t : Nat) : E := imp (isE (nm 3 t) 1) (ands [.lt 0 t, isE (nm 0 t) 2, isE (nm 1 t) 1, isE (nm 2 t) 1])
def goodT (t : Nat) : HT := .by (nm 3 t) 1 .leaf (.by 0 t (.by (nm 0 t) 2 .leaf (.by (nm 0 t) 3 (.by (nm 1 t) 1 .leaf (.by (nm 1 t) 2 (.by (nm 2 t) 1 .leaf (.by (nm 2 t) 2 .leaf .leaf)) .leaf)) .leaf)) .leaf)
def iv64 : Int × Int := (-9223372036854775808, 9223372036854775807)
noncomputable def LT : Lf := Lf.of (fnIv ++ (List.replicate 48 iv64 ++ List.replicate 16 ivB))
noncomputable def goodX (t : Nat) : Bool := autoB (turnT (rigP libN tabF noLoops) f fnFx [(goodE t, true)] [] ⟨141, 0, 3⟩ codeT (hdT t) .normal (hdT (t + 1))) (goodT t) LT
noncomputable def badX (t : Nat) : Bool := autoB (turnT (rigP libN tabF noLoops) f fnFx [(goodE t, false)] [] ⟨141, 0, 3⟩ codeT (hdT t) .ret sRT) (goodT t) LT
theorem stepT : ((List.range 16).all goodX) = true := by kernel_rfl
theorem badT : ((List.range 16).all badX) = true := by kernel_rfl
theorem stopT : autoB (turnT (rigP libN tabF noLoops) f fnFx [] [] ⟨141, 0, 3⟩ codeT (hdT 16) (.exit 4) sNT) .leaf LT = true := by kernel_rfl
/-! the function -/
noncomputable def rowF (K : Know) : Loops := rowL 5 ⟨4, 0, 3⟩ (@thU K (isU (.xi .i64 4) (.int .i64 0) :: (zeroU16 0 ++ (zeroU16 1 ++ (zeroU16 2 ++ falseU16 3))))) hdO (.exit 0) sNO
noncomputable def rowT (x : X) (s1 : St) (K : Know) : Loops := rowL 19 ⟨141, 0, 3⟩ (@thU K []) (hdT 0) x s1
noncomputable def rowsF (x : X) (s1 : St) (K : Know) : FuncId → Loops := rowsL [(f, rowF K), (f, rowT x s1 K)]
def ansV (r : Bool) : V := .t [.g (bits16 3), .s (.bool r)]
theorem goodF : autoB (callT (rigP libN tabF (rowsF (.exit 4) sNT)) f fnFx [] [] (fun _ => ansV true) [.g fnCells]) .leaf LT = true := by kernel_rfl
theorem badF : autoB (callT (rigP libN tabF (rowsF .ret sRT)) f fnFx [] [] (fun _ => ansV false) [.g fnCells]) .leaf LT = true := by kernel_rfl
theorem tagO : tagsOk (F.body.getD .skip) 0 5 = true := by kernel_rfl
theorem tagI : tagsOk codeO 0 8 = true := by kernel_rfl
theorem tagI2 : tagsOk (F.body.getD .skip) 1 8 = true := by kernel_rfl
theorem tagT : tagsOk (F.body.getD .skip) 2 19 = true := by kernel_rfl
theorem tagA : tagsOk (FO.body.getD .skip) 0 2 = true := by kernel_rfl
end Go.Proofs.Ytbebbbclhgjcbaa.twos
