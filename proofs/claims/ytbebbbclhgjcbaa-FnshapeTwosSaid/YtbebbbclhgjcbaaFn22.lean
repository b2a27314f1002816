/- The reference's once, as the machine runs it. -/
import Derived.Test.YtbebbbclhgjcbaaFn21
namespace Go.Proofs.Ytbebbbclhgjcbaa.onceR
open Go.RowKit Go.Proofs.Ytbebbbclhgjcbaa.Am
set_option maxRecDepth 100000
set_option linter.unusedVariables false
set_option linter.unusedSectionVars false
noncomputable def f : FuncId := 32
noncomputable def F : Func := Try.f32
noncomputable def fP : FuncId := 50
noncomputable def FP : Func := Try.f50
noncomputable def codeO : Code := loopAt F 0
noncomputable def codeI : Code := loopAt F 1
noncomputable def codeA : Code := loopAt FP 0
def xi (n : Nat) : S := .xi .i64 n
def lit (t : Nat) : S := .int .i64 t
def hp : Hp := [(0, ⟨fnCells, true⟩)]
noncomputable def keep (t : Nat) : List (Nat × S) := [(1, lit t), (2, .ptr 0 0), (4, .bool false)]
noncomputable def cts (a b c : Nat) : List (Nat × S) := [(5, xi a), (6, xi b), (7, xi c)]
noncomputable def keepI (t : Nat) : List (Nat × S) := keep t ++ [(8, xi 4), (9, .rv 3)]
noncomputable def hdO (t : Nat) : St := ⟨frOf F.ntmps (keep t ++ (cts 93 94 95 ++ [(8, xi 4)])), ⟨hp, 1⟩⟩
noncomputable def sNO (t : Nat) : St := ⟨frOf F.ntmps (keep t ++ cts 93 94 95), ⟨hp, 1⟩⟩
noncomputable def hdI (t : Nat) : St := ⟨frOf F.ntmps (keepI t ++ (cts 93 94 95 ++ [(10, xi 21)])), ⟨hp, 1⟩⟩
noncomputable def sNI (t : Nat) : St := ⟨frOf F.ntmps (keepI t ++ cts 96 97 98), ⟨hp, 1⟩⟩
noncomputable def hdA (t : Nat) : St := ⟨frOf FP.ntmps [(0, .rv 4), (1, lit t), (4, .int .i64 0), (5, xi 77), (6, xi 50)], ⟨[], 0⟩⟩
noncomputable def sNA (t : Nat) : St := ⟨frOf FP.ntmps [(5, xi 101)], ⟨[], 0⟩⟩
def e1 (i : Nat) (c : Int) (t : HT) : HT := .by i c .leaf (.by i (c + 1) t .leaf)
/-! statements: 93 sets, 94 uses, 95 all; 96 all with this one's, 97 and 98 one more -/
def setE (t : Nat) : E := ands [twos.at24 twos.twoE, isE 25 t, isE 26 0, isE 27 0, .not (isE 41 t)]
def useE (t : Nat) : E := ands [twos.at24 twos.passE, isE 33 t]
def pick (y : Nat) (es : List E) (a b : Nat) : Upd := ⟨xi y, es, fun bs => bif bs.headD false then xi a else xi b⟩
def usI (t : Nat) : List Upd := [isU (xi 21) (xi 22), pick 93 [setE t] 97 93, pick 94 [useE t] 98 94, isU (xi 95) (xi 96)]
def setT (t : Nat) : HT := e1 30 3 (e1 25 t (e1 26 0 (e1 27 0 (e1 41 t .leaf))))
def useT (t : Nat) : HT := e1 31 3 (e1 32 0 (e1 33 t (e1 34 0 (e1 35 0 .leaf))))
def stT (t : Nat) : HT := .by 24 1 .leaf (.by 24 2 (.by 28 1 .leaf (.by 28 2 (useT t) (.by 28 4 .leaf (.by 28 5 (setT t) .leaf)))) .leaf)
noncomputable def rO : Oracle := rowG occurs.f [.g stmCells] (.a (.g (cells16 0)))
noncomputable def L1 : Lf := ((Lf.of (fnIv ++ [])).pin 6 1).pin 23 1
noncomputable def L3 : Lf := ((Lf.of (fnIv ++ [])).pin 6 1).pin 23 0
noncomputable def tbI : Tabs := tabF.app (tabB.app tabS)
def fxI (t : Nat) : Fx := ⟨[(93, 1, 97), (94, 1, 98), (94, 0, 94)], { fnFx.xt with sm := [(95, nm 0 t, 96)] }⟩
noncomputable def stepI (t : Nat) : Bool := autoB (turnT (rigP (fun _ => rO) tbI noLoops) f (fxI t) [(okSN, true)] (usI t) ⟨21, 0, 5⟩ codeI (hdI t) .normal (hdI t)) (stT t) L1
noncomputable def stopI (t : Nat) : Bool := autoB (turnT (rigP libN (tabF.app tabB) noLoops) f fnFx [] [isU (xi 96) (xi 93), isU (xi 97) (xi 94), isU (xi 98) (xi 95)] ⟨21, 0, 5⟩ codeI (hdI t) (.exit 2) (sNI t)) .leaf L3
/-! arguments: 77 so many, 78 one more -/
def passN (t : Nat) : E := ands [isE 53 3, isE 56 0, isE 57 0, isE 55 t]
def usA (t : Nat) : List Upd := [isU (xi 50) (xi 51), pick 77 [passN t] 78 77]
def opT (t : Nat) : HT := e1 53 3 (e1 54 0 (e1 55 t (e1 56 0 (e1 57 0 .leaf))))
def fxA : Fx := ⟨[(77, 1, 78)], fnFx.xt⟩
noncomputable def LA : Lf := ((Lf.of (fnIv ++ [])).pin 6 1).pin 52 1
noncomputable def LA0 : Lf := ((Lf.of (fnIv ++ [])).pin 6 1).pin 52 0
noncomputable def stepA (t : Nat) : Bool := autoB (turnT (rigP libN (tabF.app (tabB.app tabA)) noLoops) fP fxA [(occJump.okN, true)] (usA t) ⟨21, 0, 5⟩ codeA (hdA t) .normal (hdA t)) (opT t) LA
noncomputable def stopA (t : Nat) : Bool := autoB (turnT (rigP libN (tabF.app tabB) noLoops) fP fnFx [] [isU (xi 101) (xi 77)] ⟨21, 0, 5⟩ codeA (hdA t) (.exit 0) (sNA t)) .leaf LA0
/-! blocks: 96 97 98 behind the statements, 99 all with the jump's, 100 uses with the arguments', 101 those -/
noncomputable def rowI (t : Nat) (K : Know) : Loops := rowL 10 ⟨21, 0, 5⟩ (@thU K [isU (xi 21) (.int .i64 0), isU (xi 93) (xi 93), isU (xi 94) (xi 94), isU (xi 95) (xi 95)]) (hdI t) (.exit 2) (sNI t)
noncomputable def rowA (t : Nat) (K : Know) : Loops := rowL 4 ⟨21, 0, 5⟩ (@thU K [isU (xi 50) (.int .i64 0), isU (xi 77) (.int .i64 0)]) (hdA t) (.exit 0) (sNA t)
noncomputable def rOJ : Oracle := rowG occJump.f [.g jmpCells] (.a (.g (cells16 0)))
def fxO (t : Nat) : Fx := ⟨[], { fnFx.xt with sm := [(98, nm 0 t, 99), (97, 101, 100)] }⟩
def usO : List Upd := [isU (xi 4) (xi 5), isU (xi 93) (xi 96), pick 94 [isE 8 4] 100 97, isU (xi 95) (xi 99)]
noncomputable def LO : Lf := (Lf.of (fnIv ++ [])).pin 6 1
noncomputable def LO0 : Lf := (Lf.of (fnIv ++ [])).pin 6 0
noncomputable def stepO (t : Nat) : Bool := autoB (turnT (rigP (fun _ => rOJ) (tabF.app tabB) fun K => rowsL [(f, rowI t K), (fP, rowA t K)]) f (fxO t) [] usO ⟨4, 0, 3⟩ codeO (hdO t) .normal (hdO t)) (e1 8 4 .leaf) LO
noncomputable def stopO (t : Nat) : Bool := autoB (turnT (rigP libN tabF noLoops) f fnFx [] [isU (xi 93) (xi 93), isU (xi 94) (xi 94), isU (xi 95) (xi 95)] ⟨4, 0, 3⟩ codeO (hdO t) (.exit 0) (sNO t)) .leaf LO0
/-! the function -/
noncomputable def rowO (t : Nat) (K : Know) : Loops := rowL 6 ⟨4, 0, 3⟩ (@thU K [isU (xi 4) (.int .i64 0), isU (xi 93) (.int .i64 0), isU (xi 94) (.int .i64 0), isU (xi 95) (.int .i64 0)]) (hdO t) (.exit 0) (sNO t)
noncomputable def LF : Lf := Lf.of (fnIv ++ List.replicate 19 twos.iv64)
def onceE : E := ands [isE 93 1, isE 94 1, isE 95 2]
noncomputable def runY (t : Nat) : Bool := autoB (callT (rigP libN tabF fun K => rowsL [(f, rowO t K)]) f fnFx [] [onceE] (fun bs => V.s (.bool (bs.headD false))) [.g fnCells, .s (lit t)]) (e1 93 1 (e1 94 1 (e1 95 2 .leaf))) (LF.hi 0 ((t : Int) - 1))
noncomputable def runN (t : Nat) : Bool := autoB (callT (rigP libN tabF noLoops) f fnFx [] [] (fun _ => V.s (.bool false)) [.g fnCells, .s (lit t)]) .leaf (LF.lo 0 t)
theorem stepI_0 : stepI 0 = true := by kernel_rfl
theorem stepI_1 : stepI 1 = true := by kernel_rfl
theorem stepI_2 : stepI 2 = true := by kernel_rfl
theorem stepI_3 : stepI 3 = true := by kernel_rfl
theorem stepI_4 : stepI 4 = true := by kernel_rfl
theorem stepI_5 : stepI 5 = true := by kernel_rfl
theorem stepI_6 : stepI 6 = true := by kernel_rfl
theorem stepI_7 : stepI 7 = true := by kernel_rfl
theorem stepI_8 : stepI 8 = true := by kernel_rfl
theorem stepI_9 : stepI 9 = true := by kernel_rfl
theorem stepI_10 : stepI 10 = true := by kernel_rfl
theorem stepI_11 : stepI 11 = true := by kernel_rfl
theorem stepI_12 : stepI 12 = true := by kernel_rfl
theorem stepI_13 : stepI 13 = true := by kernel_rfl
theorem stepI_14 : stepI 14 = true := by kernel_rfl
theorem stepI_15 : stepI 15 = true := by kernel_rfl
theorem stepI_ok : ∀ t, t < 16 → stepI t = true := by
  intro t h
  match t, h with
  | 0, _ => exact stepI_0
  | 1, _ => exact stepI_1
  | 2, _ => exact stepI_2
  | 3, _ => exact stepI_3
  | 4, _ => exact stepI_4
  | 5, _ => exact stepI_5
  | 6, _ => exact stepI_6
  | 7, _ => exact stepI_7
  | 8, _ => exact stepI_8
  | 9, _ => exact stepI_9
  | 10, _ => exact stepI_10
  | 11, _ => exact stepI_11
  | 12, _ => exact stepI_12
  | 13, _ => exact stepI_13
  | 14, _ => exact stepI_14
  | 15, _ => exact stepI_15
  | n + 16, h => exact absurd h (by omega)
theorem stopI_ok : ((List.range 16).all stopI) = true := by kernel_rfl
theorem stepA_ok : ((List.range 16).all stepA) = true := by kernel_rfl
theorem stopA_ok : ((List.range 16).all stopA) = true := by kernel_rfl
theorem stepO_ok : ((List.range 16).all stepO) = true := by kernel_rfl
theorem stopO_ok : ((List.range 16).all stopO) = true := by kernel_rfl
theorem runY_ok : ((List.range 16).all runY) = true := by kernel_rfl
theorem runN_ok : ((List.range 16).all runN) = true := by kernel_rfl
theorem tagO : tagsOk (F.body.getD .skip) 0 6 = true := by kernel_rfl
theorem tagI : tagsOk codeO 0 10 = true := by kernel_rfl
theorem tagI2 : tagsOk (F.body.getD .skip) 1 10 = true := by kernel_rfl
theorem tagA : tagsOk (FP.body.getD .skip) 0 4 = true := by kernel_rfl
end Go.Proofs.Ytbebbbclhgjcbaa.onceR
