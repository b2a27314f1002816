/- JumpTells: its two pieces, as the machine runs them. -/
import Derived.Test.YtaamdiknefodgaaDoorJump7
import Derived.Test.YtaamdiknefodgaaDoorCopyJ
namespace Go.Proofs.YtaamdiknefodgaaDoor.jumpTells
open Go.RowKit Go.Proofs.YtaamdiknefodgaaDoor.Am
set_option maxRecDepth 100000
set_option linter.unusedVariables false
set_option linter.unusedSectionVars false
noncomputable def body : Code := (Tryd.f4.body).getD .skip
noncomputable def nt : Nat := Tryd.f4.ntmps
/-! the first piece: n arguments, whose memory is there: up to the first call with its own copy -/
noncomputable def stA (z n : Nat) : St := ⟨[V.a (.g (cellsX (slA z n)))] ++ List.replicate (nt - 1) Am.undef, ⟨heapA z n, 1⟩⟩
noncomputable def ctxA : Ctx := ⟨tyOf Tryd.prog, @runs Know.nought (tyOf Tryd.prog) (fnOf Tryd.prog) noneO 10 3, Tabs.nought, fun _ _ _ => none⟩
noncomputable def cut1 (z n : Nat) : Option St := @cutX Know.nought ctxA 0 10 6 body (stA z n)
noncomputable def hdX (x y : S) : St := ⟨upd (upd (List.replicate nt V.any) 1 (V.s (.ptr 1 0))) 3 (V.s (.ptr 2 0)), ⟨[(1, ⟨cellsX x, false⟩), (2, ⟨cellsX y, false⟩)], 3⟩⟩
noncomputable def cutOk (z n : Nat) : Bool := Option.rec false (fun s => frzSt ⟨13, 0, 0⟩ [] (hdX .top .top) s && copyOk z n 1 2 s.h) (cut1 z n)
theorem cut_0 : cutOk 0 0 = true := by kernel_rfl
theorem cut_1 : cutOk 1 0 = true := by kernel_rfl
theorem cut_n : ((List.range 13).all fun n => Nat.beq n 0 || cutOk 2 n) = true := by kernel_rfl
/-! the second piece: 0 and 1 are the lists of both -/
noncomputable def code2 : Code := (restC 6 body).getD .skip
noncomputable def listR (F : FuncId) (cells res : List S) : Oracle := fun f args h _ => bif f == F then (match args with | [.g xs] => bif sameL S.eqb cells xs then some (newV res h) else none | _ => none) else none
noncomputable def litR (F : FuncId) (cells res : List S) : Oracle := fun f args h _ => bif f == F then (match args with | [.g xs] => bif sameL S.eqb cells xs then some (litV res h) else none | _ => none) else none
noncomputable def chkR (b : Bool) : List Oracle :=
  [rowG 22 [.g (cellsX (.rv 1))] (m8 b), rowG 30 [.g (cellsX (.rv 0))] (m8 b), rowG 64 [.g (cellsX (.rv 0))] (mB b), rowG 32 [.g (cellsX (.rv 1)), .g (cellsX (.rv 0))] (mB true)]
/-! numbers: 13 the text's length, 14 what is set, then targets, uses, moves -/
noncomputable def rowsG (np nu nm : Nat) : List Oracle := chkR true ++
  [litR 17 (cellsX (.rv 1)) (numsX 15 np), litR 25 (cellsX (.rv 0)) (numsX 15 np), listR 18 (cellsX (.rv 1)) (numsX (15 + np) nu), listR 26 (cellsX (.rv 0)) (numsX (15 + np) nu),
   listR 20 (cellsX (.rv 1)) (numsX (15 + np + nu) nm), listR 28 (cellsX (.rv 0)) (numsX (15 + np + nu) nm),
   rowG 19 [.g (cellsX (.rv 1))] (.t [.s (.xi .i64 14), .s (.int .i64 0)]), rowG 27 [.g (cellsX (.rv 0))] (.t [.s (.xi .i64 14), .s (.int .i64 0)]),
   rowG 21 [.g (cellsX (.rv 1))] (mS2 (.xs [256 + 13])), rowG 29 [.g (cellsX (.rv 0))] (mS2 (.xs [256 + 13]))]
@[reducible] noncomputable def KG : Know := (Lf.startB [(true, kJ)] [(0, 1000)] []).know (strsB 13 1)
noncomputable def ctxG (K : Know) (lib : List Oracle) : Ctx := ⟨tyOf Tryd.prog, @runs K (tyOf Tryd.prog) (fnOf Tryd.prog) (orcs lib) 30 10, Tabs.nought, fun _ _ _ => none⟩
noncomputable def isRet (x : X) : Bool := match x with | .ret => true | _ => false
noncomputable def endOk (C : Ctx) (F : Func) (r : XS) : Bool := Option.rec false (fun p => isRet p.1 && (match mapO (resOf C p.2) F.results.toList with | some [.s (.bool true)] => true | _ => false)) r
noncomputable def okG (np nu nm : Nat) : Bool := endOk (ctxG KG (rowsG np nu nm)) Tryd.f4 (@exec KG (ctxG KG (rowsG np nu nm)) 0 30 code2 (hdX (.rv 0) (.rv 1)))
@[reducible] noncomputable def KB : Know := (Lf.startB [(true, kJ)] [] []).know []
noncomputable def okB : Bool := endOk (ctxG KB (chkR false)) Tryd.f4 (@exec KB (ctxG KB (chkR false)) 0 30 code2 (hdX (.rv 0) (.rv 1)))
theorem okB_run : okB = true := by kernel_rfl
end Go.Proofs.YtaamdiknefodgaaDoor.jumpTells
