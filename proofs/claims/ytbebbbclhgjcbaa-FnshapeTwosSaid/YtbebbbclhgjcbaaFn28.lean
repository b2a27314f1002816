/- fnshape.Calls, as the machine runs it. -/
import Derived.Test.YtbebbbclhgjcbaaFn27
namespace Go.Proofs.Ytbebbbclhgjcbaa.callsF
open Go.RowKit Go.Proofs.Ytbebbbclhgjcbaa.Am
set_option maxRecDepth 100000
set_option linter.unusedVariables false
set_option linter.unusedSectionVars false
noncomputable def f : FuncId := 9
noncomputable def F : Func := Try.f9
noncomputable def codeB : Code := loopAt F 0
noncomputable def keep : List (Nat × S) := [(1, .ptr 0 0), (5, .ptr 1 0), (17, .rv 1), (18, .xi .i64 3)]
def bits8 : List S := (List.range 8).map fun j => .xe [(nm 0 j, 1)]
def hp : Hp := [(1, ⟨bits8, true⟩), (0, ⟨fnCells, true⟩)]
noncomputable def hd : St := ⟨frOf F.ntmps (keep ++ [(19, .xi .i64 4)]), ⟨hp, 2⟩⟩
noncomputable def sN : St := ⟨frOf F.ntmps keep, ⟨hp, 2⟩⟩
noncomputable def L1 : Lf := (((Lf.of (fnIv ++ [])).pin 6 1).lo 14 0).hi 14 7
noncomputable def L0 : Lf := (Lf.of (fnIv ++ [])).pin 6 0
theorem step : autoB (turnT (rigP libN (tabF.app tabB) noLoops) f fnFx [] (isU (.xi .i64 4) (.xi .i64 5) :: bitU16 0 0 14 (isE 8 4)) ⟨4, 0, 3⟩ codeB hd .normal hd) (onceR.e1 8 4 .leaf) L1 = true := by kernel_rfl
theorem stop : autoB (turnT (rigP libN tabF noLoops) f fnFx [] (sameB16 0 0) ⟨4, 0, 3⟩ codeB hd (.exit 0) sN) .leaf L0 = true := by kernel_rfl
noncomputable def row (K : Know) : Loops := rowL 7 ⟨4, 0, 3⟩ (@thU K (isU (.xi .i64 4) (.int .i64 0) :: falseU16 0)) hd (.exit 0) sN
theorem tag : tagsOk (F.body.getD .skip) 0 7 = true := by kernel_rfl
noncomputable def LT : Lf := Lf.of (fnIv ++ List.replicate 16 ivB)
/-- the case where these are called -/
noncomputable def LP (bs : List Bool) : Lf := (List.range 8).foldl (fun L j => L.pin (nm 0 j) (b2i (bs.getD j false))) LT
def lits (bs : List Bool) : List Int := ((List.range 8).filter fun j => bs.getD j false).map fun j : Nat => (j : Int)
/-- a list of these numbers, and no error -/
def cellsOk : List S → List Int → Bool
  | _, [] => true
  | .int .i64 m :: r, n :: t => decide (m = n) && cellsOk r t
  | _, _ => false
noncomputable def slOk (x : S) (h : Heap) (ns : List Int) : Bool := match x with
  | .nils => ns.isEmpty
  | .sl l 0 n 1 none => Nat.beq n ns.length && (Nat.blt 0 n && Option.rec false (fun b => b.own && cellsOk b.cells ns) (h.get l))
  | _ => false
noncomputable def ansOk (x : Option (V × Heap)) (ns : List Int) : Bool := match x with
  | some (.t [.s x, .s (.int .i64 e)], h) => decide (e = 0) && slOk x h ns
  | _ => false
noncomputable def R : Rig := rigP size.lib tabF fun K => rowsL [(f, row K)]
noncomputable def okP (bs : List Bool) : Bool := ansOk (@runsL ((LP bs).knowX fnFx) R.ty R.fn (R.lib ((LP bs).knowX fnFx)) R.tb (R.loops ((LP bs).knowX fnFx)) R.n R.d f [.g fnCells] ⟨[], 0⟩ 0) (lits bs)
def allB : Nat → List (List Bool)
  | 0 => [[]]
  | n + 1 => (allB n).flatMap fun l => [true :: l, false :: l]
noncomputable def chunk (p : List Bool) : Bool := (allB 4).all fun l => okP (p ++ l)
theorem c0 : chunk [false, false, false, false] = true := by kernel_rfl
theorem c1 : chunk [true, false, false, false] = true := by kernel_rfl
theorem c2 : chunk [false, true, false, false] = true := by kernel_rfl
theorem c3 : chunk [true, true, false, false] = true := by kernel_rfl
theorem c4 : chunk [false, false, true, false] = true := by kernel_rfl
theorem c5 : chunk [true, false, true, false] = true := by kernel_rfl
theorem c6 : chunk [false, true, true, false] = true := by kernel_rfl
theorem c7 : chunk [true, true, true, false] = true := by kernel_rfl
theorem c8 : chunk [false, false, false, true] = true := by kernel_rfl
theorem c9 : chunk [true, false, false, true] = true := by kernel_rfl
theorem c10 : chunk [false, true, false, true] = true := by kernel_rfl
theorem c11 : chunk [true, true, false, true] = true := by kernel_rfl
theorem c12 : chunk [false, false, true, true] = true := by kernel_rfl
theorem c13 : chunk [true, false, true, true] = true := by kernel_rfl
theorem c14 : chunk [false, true, true, true] = true := by kernel_rfl
theorem c15 : chunk [true, true, true, true] = true := by kernel_rfl
end Go.Proofs.Ytbebbbclhgjcbaa.callsF
