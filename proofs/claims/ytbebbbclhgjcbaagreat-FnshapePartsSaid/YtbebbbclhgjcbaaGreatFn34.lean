/- FnshapeParts: its first piece (what it calls and its size), its last one, and where it need not look, as the machine runs them. -/
import Derived.Test.YtbebbbclhgjcbaaGreatFn32
import Derived.Test.YtbebbbclhgjcbaaGreatAlive07
namespace Go.Proofs.YtbebbbclhgjcbaaGreat.Am
open Go.RowKit
set_option maxRecDepth 100000
noncomputable def alive07O : Oracle := rowG 6 [] (mB true)
theorem sound_alive07 (b : Base) : @Sound b Tryz.prog alive07O :=
  @sound_rowG b _ _ ⟨_, Tryz.func6, by kernel_rfl, by kernel_rfl⟩ [] _ rfl [] trivial (.bool true) (fun _ => rfl) fun w' _ => alive07 w'
noncomputable section
/-- where a run is cut: the state there -/
def cutR (R : Rig) (f : FuncId) (fx : Fx) (t : Nat) (c : Code) (st : St) (L : Lf) : Option St := @cutX (L.knowX fx) (R.ctx (L.knowX fx) f) 0 R.n t c st
def trueB (x : Option (List A)) : Bool := match x with | some [.s (.bool true)] => true | _ => false
def retB (x : X) : Bool := match x with | .ret => true | _ => false
/-- a piece that answers true -/
def endT (R : Rig) (f : FuncId) (F : Func) (fx : Fx) (c : Code) (st : St) (L : Lf) : Bool :=
  Option.rec false (fun p => retB p.1 && trueB (mapO (resOf (R.ctx (L.knowX fx) f) p.2) F.results.toList)) (@exec (L.knowX fx) (R.ctx (L.knowX fx) f) 0 R.n c st)
end
end Go.Proofs.YtbebbbclhgjcbaaGreat.Am
namespace Go.Proofs.YtbebbbclhgjcbaaGreat.parts
open Go.RowKit Go.Proofs.YtbebbbclhgjcbaaGreat.Am
set_option maxRecDepth 100000
set_option linter.unusedVariables false
set_option linter.unusedSectionVars false
noncomputable def body : Code := F.body.getD .skip
theorem body_some : F.body = some body := by kernel_rfl
noncomputable def code2 : Code := (restC 6 body).getD .skip
theorem rest_some : restC 6 body = some code2 := by kernel_rfl
noncomputable def nt : Nat := F.ntmps
noncomputable def st0 : St := ⟨[V.a (.g fnCells)] ++ List.replicate (nt - 1) Am.undef, ⟨[], 0⟩⟩
/-- m are called: 98 the size, 99 .. what is called -/
noncomputable def lib1 (m : Nat) : Know → Oracle := fun _ => orcs [rowG great.f [.g fnCells] (V.s (.bool false)), rowG refC.f [.g fnCells] (V.s (.int .i64 0)), rowGL callsF.f [.g fnCells] (numsX 99 m), rowG size.f [.g fnCells] (.t [.s (xi 98), .s (.int .i64 0)])]
noncomputable def hdT : St := ⟨frOf F.ntmps [(1, .ptr 0 0), (2, .bool false), (4, .int .i64 0), (5, xi 98), (6, .int .i64 0)], ⟨[(0, ⟨fnCells, false⟩)], 1⟩⟩
noncomputable def hd2 : St := ⟨upd hdT.fr 3 (V.s (.rv 2)), hdT.h⟩
noncomputable def LG : Lf := Lf.of (fnIv ++ [])
def th1 : Th := [(xi 98, xi 98)]
noncomputable def slotN (s : St) (i o n : Nat) : Bool := match nth s.fr i with
  | some (.a (.s .nils)) => Nat.beq n 0
  | some (.a (.s (.sl l 0 k 1 none))) => Nat.beq n k && Option.rec false (fun b => sameL S.eqb (numsX o n) (b.cells.take n)) (s.h.get l)
  | _ => false
noncomputable def cut1 (m : Nat) : Option St := cutR (rigP (lib1 m) tabF noLoops) f fnFx 6 body st0 LG
noncomputable def ok1 (m : Nat) : Bool := Option.rec false (fun s => frzSt ⟨4, 0, 2⟩ th1 hdT s && slotN s 3 99 m) (cut1 m)
theorem ok1_all : ((List.range 9).all ok1) = true := by kernel_rfl
/-- behind the loops: 94 how many are called, 97 whether the last used is a local -/
def fxF : Fx := ⟨[], { fnFx.xt with lf := (95, 2, 97) :: fnFx.xt.lf }⟩
noncomputable def LF (m : Nat) : Lf := ((Lf.of (fnIv ++ (List.replicate 16 ivB ++ List.replicate 6 twos.iv64))).pin 97 1).pin 94 m
noncomputable def lib2 (m : Nat) : Know → Oracle := fun _ => orcs [alive07O, rowN 14 (bits16 0) (numsX 99 m)]
def tb2 (m : Nat) : Tabs := tabF.app ⟨[(2, 94)], (List.range m).map (fun i : Nat => (2, .c (i : Int), [xi (99 + i)])), []⟩
noncomputable def ok2 (m : Nat) : Bool := endT (rigP (lib2 m) (tb2 m) fun K => rowsL [(f, rowO K)]) f F fxF code2 hd2 (LF m)
theorem ok2_all : ((List.range 9).all ok2) = true := by kernel_rfl
/-- great, or not right -/
noncomputable def libG : Know → Oracle := fun _ => orcs [rowG great.f [.g fnCells] (V.s (.bool true)), alive07O]
noncomputable def libC : Know → Oracle := fun _ => orcs [rowG great.f [.g fnCells] (V.s (.bool false)), rowG refC.f [.g fnCells] (V.s (xi 77)), alive07O]
noncomputable def LC : Lf := (Lf.of (fnIv ++ [twos.iv64])).lo 77 1
theorem run_great : autoB (callT (rigP libG tabF noLoops) f fnFx [] [] (fun _ => V.s (.bool true)) [.g fnCells]) .leaf LG = true := by kernel_rfl
theorem run_bad : autoB (callT (rigP libC tabF noLoops) f fnFx [] [] (fun _ => V.s (.bool true)) [.g fnCells]) .leaf LC = true := by kernel_rfl
theorem tagO : tagsOk code2 0 11 = true := by kernel_rfl
theorem tagOF : tagsOk body 0 11 = true := by kernel_rfl
theorem nthO : (nth (loopsIn code2) 0).getD .skip = codeO := by kernel_rfl
end Go.Proofs.YtbebbbclhgjcbaaGreat.parts
