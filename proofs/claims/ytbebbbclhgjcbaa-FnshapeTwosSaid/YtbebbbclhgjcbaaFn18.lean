/- The reference's block and Made, as the machine runs them. -/
import Derived.Test.YtbebbbclhgjcbaaFn17
namespace Go.Proofs.Ytbebbbclhgjcbaa.block
open Go.RowKit Go.Proofs.Ytbebbbclhgjcbaa.Am
set_option maxRecDepth 100000
set_option linter.unusedVariables false
set_option linter.unusedSectionVars false
noncomputable def f : FuncId := 48
noncomputable def F : Func := Try.f48
noncomputable def codeS : Code := loopAt F 0
noncomputable def keep : List (Nat × S) := [(2, .ptr 0 0), (3, .ptr 1 0)]
def hp : Hp := [(1, ⟨blkCells, true⟩), (0, ⟨fnCells, true⟩)]
noncomputable def hd : St := ⟨frOf F.ntmps (keep ++ [(5, .xi .i64 21)]), ⟨hp, 2⟩⟩
noncomputable def sN : St := ⟨frOf F.ntmps keep, ⟨hp, 2⟩⟩
noncomputable def sR : St := ⟨frOf F.ntmps [(4, .bool false)], ⟨[], 2⟩⟩
noncomputable def rV (b : Bool) : Oracle := rowG 65 [.g stmCells] (mB b)
noncomputable def rO : Oracle := rowG occurs.f [.g stmCells] (.a (.g (cells16 0)))
noncomputable def rF (b : Bool) : Oracle := rowG far.f [.g (cells16 0), .s (.xi .i64 2)] (mB b)
noncomputable def libS (l : List Oracle) : Know → Oracle := fun _ => orcs l
noncomputable def L1 : Lf := ((Lf.of (fnIv ++ [])).pin 6 1).pin 23 1
noncomputable def L3 : Lf := ((Lf.of (fnIv ++ [])).pin 6 1).pin 23 0
noncomputable def turn (l : List Oracle) (tb : Tabs) (us : List Upd) (x : X) (s1 : St) : Lf → Bool := turnT (rigP (libS l) tb noLoops) f fnFx [] us ⟨21, 0, 5⟩ codeS hd x s1
noncomputable def tbI : Tabs := tabF.app (tabB.app tabS)
theorem step : autoB (turn [rV true, rO, rF false] tbI [isU (.xi .i64 21) (.xi .i64 22)] .normal hd) .leaf L1 = true := by kernel_rfl
theorem badV : autoB (turn [rV false] tbI [] .ret sR) .leaf L1 = true := by kernel_rfl
theorem badF : autoB (turn [rV true, rO, rF true] tbI [] .ret sR) .leaf L1 = true := by kernel_rfl
theorem stop : autoB (turn [] (tabF.app tabB) [] (.exit 0) sN) .leaf L3 = true := by kernel_rfl
noncomputable def rVJ (b : Bool) : Oracle := rowG 67 [.g jmpCells] (mB b)
noncomputable def rOJ : Oracle := rowG occJump.f [.g jmpCells] (.a (.g (cells16 0)))
noncomputable def row (x : X) (s1 : St) (K : Know) : Loops := rowL 3 ⟨21, 0, 5⟩ (@thU K [isU (.xi .i64 21) (.int .i64 0)]) hd x s1
def tgE : E := .or (.or (isE 8 3) (isE 8 5)) (.and (isE 72 1) (.or (.not (isE 8 2)) (.or (isE 74 1) (isE 73 1))))
def fxB : Fx := ⟨[], { fnFx.xt with eq := (16, 15, 74) :: fnFx.xt.eq }⟩
noncomputable def run (l : List Oracle) (x : X) (s1 : St) (es : List E) (g : List Bool → V) : Lf → Bool := callT (rigP (libS l) (tabF.app tabB) fun K => rowsL [(f, row x s1 K)]) f fxB [] es g [.g fnCells, .g blkCells]
noncomputable def LB : Lf := (Lf.of (fnIv ++ [])).pin 6 1
def b2 (i : Nat) (t : HT) : HT := .both i 1 t
def tgT : HT := .on 8 2 (b2 72 .leaf) (.on 8 3 (b2 72 (b2 74 (b2 73 .leaf))) (.on 8 4 .leaf (.on 8 5 (b2 72 .leaf) (.on 8 6 .leaf (b2 72 .leaf)))))
theorem run_s : autoB (run [] .ret sR [] fun _ => V.s (.bool false)) .leaf LB = true := by kernel_rfl
theorem run_v : autoB (run [rVJ false] (.exit 0) sN [] fun _ => V.s (.bool false)) .leaf LB = true := by kernel_rfl
theorem run_f : autoB (run [rVJ true, rOJ, rF true] (.exit 0) sN [] fun _ => V.s (.bool false)) .leaf LB = true := by kernel_rfl
theorem run_t : autoB (run [rVJ true, rOJ, rF false] (.exit 0) sN [tgE] fun bs => V.s (.bool (bs.headD false))) tgT LB = true := by kernel_rfl
theorem tag : tagsOk (F.body.getD .skip) 0 3 = true := by kernel_rfl
end Go.Proofs.Ytbebbbclhgjcbaa.block
namespace Go.Proofs.Ytbebbbclhgjcbaa.madeR
open Go.RowKit Go.Proofs.Ytbebbbclhgjcbaa.Am
set_option maxRecDepth 100000
set_option linter.unusedVariables false
set_option linter.unusedSectionVars false
noncomputable def f : FuncId := 30
noncomputable def F : Func := Try.f30
noncomputable def codeT : Code := loopAt F 0
noncomputable def codeB : Code := loopAt F 1
noncomputable def keep : List (Nat × S) := [(1, .ptr 0 0)]
def hp : Hp := [(0, ⟨fnCells, true⟩)]
noncomputable def hdT : St := ⟨frOf F.ntmps (keep ++ [(3, .xi .i64 58)]), ⟨hp, 1⟩⟩
noncomputable def hdB : St := ⟨frOf F.ntmps (keep ++ [(4, .xi .i64 4)]), ⟨hp, 1⟩⟩
noncomputable def sN : St := ⟨frOf F.ntmps keep, ⟨hp, 1⟩⟩
noncomputable def sR : St := ⟨frOf F.ntmps [(2, .bool false)], ⟨[], 1⟩⟩
noncomputable def L1 : Lf := (Lf.of (fnIv ++ [])).pin 60 1
noncomputable def L3 : Lf := (Lf.of (fnIv ++ [])).pin 60 0
noncomputable def testT (tb : Tabs) (giv : List (E × Bool)) (us : List Upd) (x : X) (s1 : St) : Lf → Bool := turnT (rigP libN tb noLoops) f fnFx giv us ⟨4, 0, 3⟩ codeT hdT x s1
theorem stepT : autoB (testT (tabF.app tabT) [(head.okN, true)] [isU (.xi .i64 58) (.xi .i64 59)] .normal hdT) head.hTy L1 = true := by kernel_rfl
theorem badT : autoB (testT (tabF.app tabT) [(head.okN, false)] [] .ret sR) head.hTy L1 = true := by kernel_rfl
theorem stopT : autoB (testT tabF [] [] (.exit 0) sN) .leaf L3 = true := by kernel_rfl
noncomputable def rB (b : Bool) : Know → Oracle := fun _ => rowG block.f [.g fnCells, .g blkCells] (mB b)
noncomputable def testB (lib : Know → Oracle) (tb : Tabs) (us : List Upd) (x : X) (s1 : St) : Lf → Bool := turnT (rigP lib tb noLoops) f fnFx [] us ⟨4, 0, 3⟩ codeB hdB x s1
noncomputable def LB1 : Lf := (Lf.of (fnIv ++ [])).pin 6 1
noncomputable def LB0 : Lf := (Lf.of (fnIv ++ [])).pin 6 0
theorem stepB : autoB (testB (rB true) (tabF.app tabB) [isU (.xi .i64 4) (.xi .i64 5)] .normal hdB) .leaf LB1 = true := by kernel_rfl
theorem badB : autoB (testB (rB false) (tabF.app tabB) [] .ret sR) .leaf LB1 = true := by kernel_rfl
theorem stopB : autoB (testB libN tabF [] (.exit 2) sN) .leaf LB0 = true := by kernel_rfl
noncomputable def rowT (x : X) (s1 : St) (K : Know) : Loops := rowL 5 ⟨4, 0, 3⟩ (@thU K [isU (.xi .i64 58) (.int .i64 0)]) hdT x s1
noncomputable def rowB (x : X) (s1 : St) (K : Know) : Loops := rowL 12 ⟨4, 0, 3⟩ (@thU K [isU (.xi .i64 4) (.int .i64 0)]) hdB x s1
noncomputable def libM (b : Bool) : Know → Oracle := fun _ => rowG many.fB [.g fnCells] (mB b)
noncomputable def run (m : Bool) (tb : Tabs) (rows : Know → List (FuncId × Loops)) (giv : List (E × Bool)) (es : List E) (g : List Bool → V) : Lf → Bool := callT (rigP (libM m) tb fun K => rowsL (rows K)) f fnFx giv es g [.g fnCells]
def guardE : E := ands [.not (.lt 2 1), .not (.lt 3 1), .not (.lt 0 0), .lt 0 9, isE 76 1]
def gT : HT := .by 2 1 .leaf (.by 3 1 .leaf (.by 0 0 .leaf (.by 0 9 (.both 76 1 .leaf) .leaf)))
noncomputable def LG : Lf := Lf.of (fnIv ++ [])
noncomputable def LS : Lf := (((((Lf.of (fnIv ++ [])).lo 2 1).lo 3 1).lo 0 0).hi 0 8).pin 76 1
theorem run_m : autoB (run true tabF (fun _ => []) [] [] fun _ => V.s (.bool false)) .leaf LG = true := by kernel_rfl
theorem run_g : autoB (run false tabF (fun _ => []) [(guardE, false)] [] fun _ => V.s (.bool false)) gT LG = true := by kernel_rfl
theorem run_t : autoB (run false tabF (fun K => [(f, rowT .ret sR K)]) [] [] fun _ => V.s (.bool false)) .leaf LS = true := by kernel_rfl
theorem run_p : autoB (run false (tabF.app tab0) (fun K => [(f, rowT (.exit 0) sN K)]) [(head.okN, true), (isE 62 0, false)] [] fun _ => V.s (.bool false)) head.hTy LS = true := by kernel_rfl
theorem run_b : autoB (run false (tabF.app tab0) (fun K => [(f, rowT (.exit 0) sN K), (f, rowB .ret sR K)]) [(head.okN, true), (isE 62 0, true)] [] fun _ => V.s (.bool false)) head.hTy LS = true := by kernel_rfl
theorem run_ok : autoB (run false (tabF.app tab0) (fun K => [(f, rowT (.exit 0) sN K), (f, rowB (.exit 2) sN K)]) [(head.okN, true), (isE 62 0, true)] [] fun _ => V.s (.bool true)) head.hTy LS = true := by kernel_rfl
theorem tagT : tagsOk (F.body.getD .skip) 0 5 = true := by kernel_rfl
theorem tagB : tagsOk (F.body.getD .skip) 1 12 = true := by kernel_rfl
end Go.Proofs.Ytbebbbclhgjcbaa.madeR
