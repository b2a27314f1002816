/- Rows of calls with the parts of a function: its statements and its jumps; whether all locals of a statement, an operand, a jump are near. -/
import Derived.Test.YtbebbbclhgjcbaaFn3
import Derived.Test.YtbebbbclhgjcbaaTestsJR
namespace Go.Proofs.Ytbebbbclhgjcbaa.Am
open Go.RowKit
set_option maxRecDepth 100000
set_option linter.unusedVariables false
set_option linter.unusedSectionVars false
/-! near: over a statement's numbers (26 .. 31: which of its locals are less than the number of locals) -/
def stV (nL : Int) (st : List Value) (i : Nat) : Int := if i < 26 then cellI st i else [ltI' (cellI st 25) nL, ltI' (cellI st 1) nL, ltI' (cellI st 9) nL, ltI' (cellI st 14) nL, ltI' (cellI st 17) nL, ltI' (cellI st 22) nL].getD (i - 26) 0
def nearE : E := ands [imp (isE 0 3) (isE 26 1), imp (.or (isE 0 2) (isE 0 4)) (.or (isE 20 1) (isE 31 1)),
  imp (isE 0 1) (ands [isE 27 1, imp (.or (isE 4 4) (isE 4 5)) (isE 30 1), imp (.not (.or (isE 4 4) (isE 4 5))) (.or (isE 7 1) (isE 28 1)), imp (.or (isE 4 2) (isE 4 3)) (.or (isE 12 1) (isE 29 1))])]
def nearS (nL : Int) (st : List Value) : Bool := nearE.num (stV nL st)
def toS (i : Nat) : Nat := if i < 26 then 24 + i else 37 + i
theorem near_num {D : FnD} (q : At) (more : List Int) : (nearE.ren toS).num (xsAt (fnXs D q more)) = nearS D.ls.length (D.stm q.i q.k) := by
  refine E.num_ren (n := 32) rfl fun j hj => ?_
  by_cases h : j < 26
  · unfold toS stV
    rw [if_pos h, if_pos h]
    have e : fnXs D q more = (xsHd D ++ (xsB D q ++ [(q.k : Int), (q.k : Int) + 1, ltI' q.k (D.blk q.i).st.length])) ++ (cods 26 (D.stm q.i q.k) ++ (xsO D q ++ (xsT D q ++ (xsC D q ++ more)))) := by simp [fnXs, xsS, xsEl]
    rw [e]
    exact (xsAt_ge (n := 24) rfl).trans (cods_any h _)
  · have : j = 26 ∨ j = 27 ∨ j = 28 ∨ j = 29 ∨ j = 30 ∨ j = 31 := by omega
    rcases this with rfl | rfl | rfl | rfl | rfl | rfl <;> rfl
def opNear (nL : Int) (op : List Value) : Bool := decide (cellI op 0 = 1) || decide (cellI op 2 < nL)
def okSN : E := okStE.ren (24 + ·)
theorem okS_num {D : FnD} (q : At) (more : List Int) : okSN.num (xsAt (fnXs D q more)) = okStE.val (D.stm q.i q.k) := (stm_num q more (e := okStE) (by decide)).trans (E.val_num _ _).symm
section
variable {w : World} {v : Value} {D : FnD} (h : FnOk' w v D)
include h
theorem row_stm {F : FuncId} {val : Bool → Value} {mk : Bool → V} (hF : Callable Try.prog F) (ht : Tests Try.prog anyW F kSt okStE val) (hu : ∀ (b0 : Base) r b, @VV b0 r (mk b) (val b)) {q : At} (hi : q.i < D.bs.length) (hk : q.k < (D.blk q.i).st.length) {b : Bool} (hb : okStE.val (D.stm q.i q.k) = b) (m : List Int)
    (K : Know) (ok : KnowOk K (fnB w D q m).rho (fnB w D q m).sig) : @Sound ((fnB w D q m).withK K ok) Try.prog (rowG F [.g stmCells] (mk b)) := by
  have hc := stm_cells h hi hk m
  refine @sound_rowG ((fnB w D q m).withK K ok) _ F hF _ _ (by rfl) [.agg (D.stm q.i q.k).toArray] ⟨⟨_, rfl, ?_⟩, trivial⟩ (val b) (fun r => hu _ r b) fun w' _ => ?_
  · refine all2_by_nth hc.len fun i x u hx hu => ?_
    obtain ⟨u', hu', e⟩ := All2.nth hc (n := i) (x := x) (by rw [nth_eq]; exact hx)
    rw [hu] at hu'
    cases hu'
    exact e r0
  · rw [← hb]
    exact ht (D.stm q.i q.k) (stm_is h hi hk).1 w' trivial
theorem jump_is {i : Nat} (hi : i < D.bs.length) : JumpIs w (.agg ((D.blk i).pre ++ (D.blk i).a :: (D.blk i).post).toArray) (D.blk i).pre (D.blk i).a (D.blk i).post (D.blk i).ops := by
  have b := (blk_is h hi).1
  exact ⟨rfl, b.prek, b.postk, ⟨b.opl.sl, b.opl.most, b.opl.at_, fun i el he => b.okd el (List.mem_of_getElem? he), b.opl.cap⟩⟩
def okJF (b : BlkD) : Bool := okJ b.pre b.ops b.post
theorem row_jmp {F : FuncId} {val : Bool → Value} {mk : Bool → V} (hF : Callable Try.prog F) (ht : TestsJ F val) (hu : ∀ (b0 : Base) r b, @VV b0 r (mk b) (val b)) {q : At} (hi : q.i < D.bs.length) {b : Bool} (hb : okJF (D.blk q.i) = b) (m : List Int)
    (K : Know) (ok : KnowOk K (fnB w D q m).rho (fnB w D q m).sig) : @Sound ((fnB w D q m).withK K ok) Try.prog (rowG F [.g jmpCells] (mk b)) := by
  have hc := jmp_cells h hi q rfl m
  refine @sound_rowG ((fnB w D q m).withK K ok) _ F hF _ _ (by rfl) [.agg ((D.blk q.i).pre ++ (D.blk q.i).a :: (D.blk q.i).post).toArray] ⟨⟨_, rfl, ?_⟩, trivial⟩ (val b) (fun r => hu _ r b) fun w' hw => ?_
  · refine all2_by_nth hc.len fun i x u hx hu => ?_
    obtain ⟨u', hu', e⟩ := All2.nth hc (n := i) (x := x) (by rw [nth_eq]; exact hx)
    rw [hu] at hu'
    cases hu'
    exact e r0
  · rw [← hb]
    exact ht w' _ _ _ _ _ (jump_is (h.frz hw) hi)
theorem row_fnD {F : FuncId} {u : Value} {mv : V} (hF : Callable Try.prog F) (hu : ∀ (b0 : Base) r, @VV b0 r mv u) (q : At) (m : List Int) (ha : ∀ w', FnOk' w' v D → Answers F [v] w' u)
    (K : Know) (ok : KnowOk K (fnB w D q m).rho (fnB w D q m).sig) : @Sound ((fnB w D q m).withK K ok) Try.prog (rowG F [.g fnCells] mv) :=
  @sound_rowG ((fnB w D q m).withK K ok) _ F hF _ _ (by rfl) [v] ⟨fn_val h q m r0, trivial⟩ u (fun r => hu _ r) fun w' hw => ha w' (h.frz hw)
end
theorem vm8 (b0 : Base) (r : Ren) (b : Bool) : @VV b0 r (m8 b) (v8 b) := by cases b <;> rfl
theorem vmB (b0 : Base) (r : Ren) (b : Bool) : @VV b0 r (mB b) (.bool b) := rfl
end Go.Proofs.Ytbebbbclhgjcbaa.Am
namespace Go.Proofs.Ytbebbbclhgjcbaa.made
open Go.RowKit Go.Proofs.Ytbebbbclhgjcbaa.Am
set_option maxRecDepth 100000
set_option linter.unusedVariables false
set_option linter.unusedSectionVars false
noncomputable def f : FuncId := 27
noncomputable def F : Func := Try.f27
noncomputable def codeO : Code := loopAt F 0
noncomputable def codeI : Code := loopAt F 1
noncomputable def near : S := .fn 44 [(1, 0), (0, 0)]
def R : S := .xe [(77, 1)]
/-- what the loops keep; the block; the statement -/
noncomputable def keepO : List (Nat × S) := [(1, .ptr 0 0), (3, .ptr 1 0), (4, near), (23, .rv 1), (24, .xi .i64 3)]
noncomputable def keepI : List (Nat × S) := keepO ++ [(25, .xi .i64 4), (6, .ptr 2 0)]
def hpO (r : S) : Hp := [(1, ⟨[r], true⟩), (0, ⟨fnCells, true⟩)]
def hpI (r : S) : Hp := (2, ⟨blkCells, true⟩) :: hpO r
noncomputable def hdO : St := ⟨frOf F.ntmps (keepO ++ [(25, .xi .i64 4)]), ⟨hpO R, 2⟩⟩
noncomputable def hdI : St := ⟨frOf F.ntmps (keepI ++ [(30, .rv 3), (31, .xi .i64 7), (32, .xi .i64 21)]), ⟨hpI R, 3⟩⟩
noncomputable def sNO : St := ⟨frOf F.ntmps keepO, ⟨hpO (.xe [(78, 1)]), 2⟩⟩
noncomputable def sNI : St := ⟨frOf F.ntmps keepI, ⟨hpI (.xe [(78, 1)]), 3⟩⟩
noncomputable def sRO : St := ⟨frOf F.ntmps [(2, .bool false)], ⟨[], 2⟩⟩
noncomputable def sRI : St := ⟨frOf F.ntmps [(2, .bool false)], ⟨[], 3⟩⟩
/-! statements -/
/-- an operand whose kind, and whether its local is near, are these -/
def opT (k d : Nat) (t : HT) : HT := .by k 1 (.both d 1 t) (.by k 2 t (.by k 3 (.both d 1 t) (.by k 4 (.both d 1 t) (.both d 1 t))))
def rvT' : HT := .on 28 1 .leaf (.on 28 2 (opT 31 65 .leaf) (.on 28 3 (opT 31 65 (opT 36 66 .leaf)) (.on 28 4 (opT 31 65 (opT 36 66 .leaf)) (.by 28 6 (.by 28 5 (.both 67 1 .leaf) (.both 67 1 .leaf)) .leaf))))
def stT' : HT := .on 24 1 .leaf (.on 24 2 (.both 64 1 rvT') (.on 24 3 (opT 44 68 .leaf) (.on 24 4 (.both 63 1 .leaf) (.by 24 5 (opT 44 68 .leaf) .leaf))))
def hSt : HT := .on 77 1 stT' stT'
def nearN : E := .and (isE 77 1) (nearE.ren toS)
noncomputable def libS (b : Bool) : Know → Oracle := fun _ => rowG 33 [.g stmCells] (m8 b)
noncomputable def L1 : Lf := ((Lf.of (fnIv ++ [ivB])).pin 6 1).pin 23 1
noncomputable def L3 : Lf := ((Lf.of (fnIv ++ [ivB])).pin 6 1).pin 23 0
noncomputable def tbI : Tabs := tabF.app (tabB.app tabS)
noncomputable def stepT : Lf → Bool := turnT (rigP (libS true) tbI noLoops) f fnFx [(okSN, true)] [isU (.xi .i64 21) (.xi .i64 22), bitU R nearN, keepU 77 nearN 77] ⟨21, 0, 5⟩ codeI hdI .normal hdI
theorem auto_cut {test : Lf → Bool} {i : Nat} {c : Int} {a b : HT} {f : Bool} {L : Lf} (h1 : below L i c = false) (h2 : above L i c = false) (ha : autoB test a (L.hi i (c - 1)) = true) (hb : autoB test b (L.lo i c) = true) : autoB test (.cut f i c a b) L = true := by
  show (bif below L i c then autoB test a L else bif above L i c then autoB test b L else (bif f then false else test L) || (autoB test a (L.hi i (c - 1)) && autoB test b (L.lo i c))) = true
  rw [h1, h2, ha, hb]
  simp
theorem stepIa : autoB stepT stT' (L1.hi 77 0) = true := by kernel_rfl
theorem stepIb : autoB stepT stT' (L1.lo 77 1) = true := by kernel_rfl
theorem stepI : autoB (turnT (rigP (libS true) tbI noLoops) f fnFx [(okSN, true)] [isU (.xi .i64 21) (.xi .i64 22), bitU R nearN, keepU 77 nearN 77] ⟨21, 0, 5⟩ codeI hdI .normal hdI) hSt L1 = true := auto_cut (test := stepT) (by kernel_rfl) (by kernel_rfl) stepIa stepIb
theorem badI : autoB (turnT (rigP (libS false) tbI noLoops) f fnFx [] [] ⟨21, 0, 5⟩ codeI hdI .ret sRI) .leaf L1 = true := by kernel_rfl
theorem stopI : autoB (turnT (rigP libN (tabF.app tabB) noLoops) f fnFx [] [isU (.xe [(78, 1)]) R] ⟨21, 0, 5⟩ codeI hdI (.exit 2) sNI) .leaf L3 = true := by kernel_rfl
/-! a jump's arguments -/
noncomputable def fO : FuncId := 61
noncomputable def FO : Func := Try.f61
noncomputable def codeA : Code := loopAt FO 0
/-- block 4: where the jump leads -/
def hpA (r : S) : Hp := (4, ⟨[.xi .i64 15], true⟩) :: hpO r
noncomputable def hdA : St := ⟨frOf FO.ntmps [(1, .bool true), (2, near), (8, .rv 4), (9, .xi .i64 17), (10, .xi .i64 50)], ⟨hpA R, 7⟩⟩
noncomputable def sNA : St := ⟨frOf FO.ntmps [], ⟨hpA (.xe [(79, 1)]), 7⟩⟩
def hOp : HT := .on 77 1 (opT 53 71 .leaf) (opT 53 71 .leaf)
def nearA : E := .and (isE 77 1) (.or (isE 53 1) (isE 71 1))
noncomputable def L5 : Lf := ((Lf.of (fnIv ++ [ivB])).pin 6 1).pin 52 1
noncomputable def L6 : Lf := ((Lf.of (fnIv ++ [ivB])).pin 6 1).pin 52 0
theorem stepA : autoB (turnT (rigP libN (tabF.app (tabB.app tabA)) noLoops) fO fnFx [] [isU (.xi .i64 50) (.xi .i64 51), bitU R nearA, keepU 77 nearA 77] ⟨21, 0, 5⟩ codeA hdA .normal hdA) hOp L5 = true := by kernel_rfl
theorem stopA : autoB (turnT (rigP libN (tabF.app tabB) noLoops) fO fnFx [] [isU (.xe [(79, 1)]) R] ⟨21, 0, 5⟩ codeA hdA (.exit 0) sNA) .leaf L6 = true := by kernel_rfl
/-! blocks: 77 before, 78 behind its statements, 79 behind its jump's arguments -/
def usI : List Upd := [isU (.xi .i64 21) (.int .i64 0), isU R R]
def usA : List Upd := [isU (.xi .i64 50) (.int .i64 0), ⟨R, [isE 78 1], fun bs => bif bs.headD false then .xe [(70, 1)] else .bool false⟩, bitU R (.and (isE 78 1) (isE 70 1))]
noncomputable def rowI (x : X) (s1 : St) (K : Know) : Loops := rowL 8 ⟨21, 0, 5⟩ (@thU K usI) hdI x s1
noncomputable def rowA (K : Know) : Loops := rowL 2 ⟨21, 0, 5⟩ (@thU K usA) hdA (.exit 0) sNA
noncomputable def rowsO (K : Know) : FuncId → Loops := rowsL [(f, rowI (.exit 2) sNI K), (fO, rowA K)]
noncomputable def rowsB (K : Know) : FuncId → Loops := rowsL [(f, rowI .ret sRI K)]
noncomputable def libJ (b : Bool) : Know → Oracle := fun _ => rowG 36 [.g jmpCells] (m8 b)
def outE : E := ands [imp (isE 8 2) (.and (isE 78 1) (.or (isE 9 1) (isE 69 1))), imp (isE 8 4) (isE 79 1), imp (.and (.not (isE 8 2)) (.not (isE 8 4))) (isE 78 1), imp (.not (.or (isE 8 3) (isE 8 5))) (isE 72 1), imp (isE 8 2) (.or (isE 74 1) (isE 73 1))]
def b1 (i : Nat) (t : HT) : HT := .on i 1 t t
def gotoT : HT := b1 78 (b1 72 .leaf)
def hJm : HT := .on 8 2 gotoT (.on 8 3 (b1 78 (.by 9 1 (.both 69 1 (b1 72 (b1 74 (b1 73 .leaf)))) (.by 9 2 (b1 72 (b1 74 (b1 73 .leaf))) (.both 69 1 (b1 72 (b1 74 (b1 73 .leaf))))))) (.on 8 4 (b1 78 .leaf) (.on 8 5 (b1 78 (b1 70 (b1 79 (b1 72 .leaf)))) (.on 8 6 (b1 78 .leaf) gotoT))))
noncomputable def L7 : Lf := (Lf.of (fnIv ++ [ivB, ivB, ivB])).pin 6 1
noncomputable def L8 : Lf := (Lf.of (fnIv ++ [ivB])).pin 6 0
noncomputable def tbO : Tabs := tabF.app tabB
theorem stepO : autoB (turnT (rigP (libJ true) tbO rowsO) f fnFx [] [isU (.xi .i64 4) (.xi .i64 5), bitU R outE, keepU 77 outE 78, keepU 77 outE 79] ⟨4, 0, 3⟩ codeO hdO .normal hdO) hJm L7 = true := by kernel_rfl
theorem badSO : autoB (turnT (rigP libN tbO rowsB) f fnFx [] [] ⟨4, 0, 3⟩ codeO hdO .ret sRO) .leaf L7 = true := by kernel_rfl
theorem badJO : autoB (turnT (rigP (libJ false) tbO fun K => rowsL [(f, rowI (.exit 2) sNI K)]) f fnFx [] [] ⟨4, 0, 3⟩ codeO hdO .ret sRO) .leaf L7 = true := by kernel_rfl
theorem stopO : autoB (turnT (rigP libN tabF noLoops) f fnFx [] [isU (.xe [(78, 1)]) R] ⟨4, 0, 3⟩ codeO hdO (.exit 0) sNO) .leaf L8 = true := by kernel_rfl
/-! the function: 78 at its end -/
noncomputable def rowM (r : Bool) (x : X) (s1 : St) (K : Know) : Loops := rowL 5 ⟨4, 0, 3⟩ (@thU K [isU (.xi .i64 4) (.int .i64 0), isU R (.bool r)]) hdO x s1
noncomputable def libH (b : Bool) : Know → Oracle := fun _ => rowG 43 [.g fnCells] (mB b)
noncomputable def LM : Lf := Lf.of (fnIv ++ [ivB, ivB])
noncomputable def runM (hb r : Bool) (x : X) (s1 : St) (es : List E) (g : List Bool → V) : Lf → Bool := callT (rigP (libH hb) tabF fun K => rowsL [(f, rowM r x s1 K)]) f fnFx [] es g [.g fnCells]
theorem good0 : autoB (runM false false (.exit 0) sNO [] fun _ => V.s (.xe [(78, 1)])) (.of [⟨false, 78, 1⟩]) LM = true := by kernel_rfl
theorem bad0 : autoB (runM false false .ret sRO [] fun _ => V.s (.bool false)) .leaf LM = true := by kernel_rfl
theorem good1 : autoB (runM true true (.exit 0) sNO [] fun _ => V.s (.xe [(78, 1)])) (.of [⟨false, 78, 1⟩]) (LM.lo 3 1) = true := by kernel_rfl
theorem bad1 : autoB (runM true true .ret sRO [] fun _ => V.s (.bool false)) .leaf (LM.lo 3 1) = true := by kernel_rfl
theorem good2 : autoB (runM true false (.exit 0) sNO [] fun _ => V.s (.xe [(78, 1)])) (.of [⟨false, 78, 1⟩]) (LM.hi 3 0) = true := by kernel_rfl
theorem bad2 : autoB (runM true false .ret sRO [] fun _ => V.s (.bool false)) .leaf (LM.hi 3 0) = true := by kernel_rfl
theorem tagO : tagsOk (F.body.getD .skip) 0 5 = true := by kernel_rfl
theorem tagI : tagsOk codeO 0 8 = true := by kernel_rfl
theorem tagA : tagsOk (FO.body.getD .skip) 0 2 = true := by kernel_rfl
end Go.Proofs.Ytbebbbclhgjcbaa.made
