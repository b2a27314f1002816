/- Jumps: which are valid: the runs. Whether a function's locals and parameters are right: fnshape.head. Rows of calls with the parts of a function: its statements and its jumps; whether all locals of a statement, an operand, a jump are near. -/
import Derived.Test.YthdcahkedlijpaaGreatJump2
import Derived.Test.YthdcahkedlijpaaGreatFn2
namespace Go.Proofs.YthdcahkedlijpaaGreat.Am
open Go.RowKit
set_option maxRecDepth 100000
noncomputable def cj0L : Lf := L0J
noncomputable def cj1L : Lf := (cj0L.hi 0 (4 - 1))
noncomputable def cj2L : Lf := (cj1L.hi 0 (2 - 1))
def cj2T : Sp := (.cut 0 1 (.cut 6 0 .leaf (.cut 6 1 (.cut 9 1 .leaf .leaf) .leaf)) (.cut 7 0 (.cut 6 0 .leaf (.cut 6 1 (.cut 9 1 (.conj [(10, 0), (11, 0), (12, 0)] (.conj [(1, 0), (2, 0), (3, 0), (4, 0), (5, 0)] .leaf .leaf) .leaf) .leaf) .leaf)) (.cut 7 24 (.cut 8 0 (.cut 6 0 .leaf (.cut 6 1 (.cut 9 1 (.conj [(10, 0), (11, 0), (12, 0)] (.conj [(1, 0), (2, 0), (3, 0), (4, 0), (5, 0)] .leaf .leaf) .leaf) .leaf) .leaf)) (.cut 8 1 (.conj [(1, 0), (2, 0), (3, 0), (4, 0), (5, 0)] (.cut 6 0 .leaf (.cut 6 1 (.cut 9 1 (.conj [(10, 0), (11, 0), (12, 0)] .leaf .leaf) .leaf) .leaf)) (.cut 6 0 .leaf (.cut 6 1 (.cut 9 1 (.conj [(10, 0), (11, 0), (12, 0)] .leaf .leaf) .leaf) .leaf))) (.cut 6 0 .leaf (.cut 6 1 (.cut 9 1 (.conj [(10, 0), (11, 0), (12, 0)] (.conj [(1, 0), (2, 0), (3, 0), (4, 0), (5, 0)] .leaf .leaf) .leaf) .leaf) .leaf)))) (.cut 6 0 .leaf (.cut 6 1 (.cut 9 1 (.conj [(10, 0), (11, 0), (12, 0)] (.conj [(1, 0), (2, 0), (3, 0), (4, 0), (5, 0)] .leaf .leaf) .leaf) .leaf) .leaf)))))
noncomputable def cj3L : Lf := (cj1L.lo 0 2)
noncomputable def cj4L : Lf := (cj3L.hi 0 (3 - 1))
def cj4T : Sp := (.cut 7 0 (.cut 6 0 .leaf (.cut 6 1 (.cut 9 1 (.conj [(10, 0), (11, 0), (12, 0)] (.cut 14 1 .leaf .leaf) .leaf) .leaf) .leaf)) (.cut 7 24 (.cut 8 0 (.cut 6 0 .leaf (.cut 6 1 (.cut 9 1 (.conj [(10, 0), (11, 0), (12, 0)] (.cut 14 1 .leaf .leaf) .leaf) .leaf) .leaf)) (.cut 8 24 (.cut 14 1 (.cut 6 0 .leaf (.cut 6 1 (.cut 9 1 (.conj [(10, 0), (11, 0), (12, 0)] .leaf .leaf) .leaf) .leaf)) (.cut 6 0 .leaf (.cut 6 1 (.cut 9 1 (.conj [(10, 0), (11, 0), (12, 0)] .leaf .leaf) .leaf) .leaf))) (.cut 6 0 .leaf (.cut 6 1 (.cut 9 1 (.conj [(10, 0), (11, 0), (12, 0)] (.cut 14 1 .leaf .leaf) .leaf) .leaf) .leaf)))) (.cut 6 0 .leaf (.cut 6 1 (.cut 9 1 (.conj [(10, 0), (11, 0), (12, 0)] (.cut 14 1 .leaf .leaf) .leaf) .leaf) .leaf))))
noncomputable def cj5L : Lf := (cj3L.lo 0 3)
def cj5T : Sp := (.cut 7 0 (.cut 6 0 .leaf (.cut 6 1 (.cut 9 1 (.conj [(10, 0), (11, 0), (12, 0)] (.conj [(1, 0), (2, 0), (3, 0), (4, 0), (5, 0)] .leaf .leaf) .leaf) .leaf) .leaf)) (.cut 7 1 (.cut 8 0 (.cut 6 0 .leaf (.cut 6 1 (.cut 9 1 (.conj [(10, 0), (11, 0), (12, 0)] (.conj [(1, 0), (2, 0), (3, 0), (4, 0), (5, 0)] .leaf .leaf) .leaf) .leaf) .leaf)) (.cut 8 1 (.conj [(1, 0), (2, 0), (3, 0), (4, 0), (5, 0)] (.cut 6 0 .leaf (.cut 6 1 (.cut 9 1 (.conj [(10, 0), (11, 0), (12, 0)] .leaf .leaf) .leaf) .leaf)) (.cut 6 0 .leaf (.cut 6 1 (.cut 9 1 (.conj [(10, 0), (11, 0), (12, 0)] .leaf .leaf) .leaf) .leaf))) (.cut 6 0 .leaf (.cut 6 1 (.cut 9 1 (.conj [(10, 0), (11, 0), (12, 0)] (.conj [(1, 0), (2, 0), (3, 0), (4, 0), (5, 0)] .leaf .leaf) .leaf) .leaf) .leaf)))) (.cut 6 0 .leaf (.cut 6 1 (.cut 9 1 (.conj [(10, 0), (11, 0), (12, 0)] (.conj [(1, 0), (2, 0), (3, 0), (4, 0), (5, 0)] .leaf .leaf) .leaf) .leaf) .leaf))))
def cj3T : Sp := .cut 0 3 cj4T cj5T
def cj1T : Sp := .cut 0 2 cj2T cj3T
noncomputable def cj6L : Lf := (cj0L.lo 0 4)
noncomputable def cj7L : Lf := (cj6L.hi 0 (5 - 1))
noncomputable def cj8L : Lf := (cj7L.hi 7 (0 - 1))
def cj8T : Sp := (.cut 6 0 (.conj [(1, 0), (2, 0), (3, 0), (4, 0), (5, 0)] .leaf .leaf) (.cut 6 1 (.cut 9 1 (.conj [(1, 0), (2, 0), (3, 0), (4, 0), (5, 0)] (.cut 15 1 .leaf .leaf) .leaf) (.conj [(1, 0), (2, 0), (3, 0), (4, 0), (5, 0)] (.cut 9 9 (.cut 15 1 .leaf .leaf) .leaf) .leaf)) (.conj [(1, 0), (2, 0), (3, 0), (4, 0), (5, 0)] (.cut 6 8 (.cut 9 9 (.cut 15 1 .leaf .leaf) .leaf) .leaf) .leaf)))
noncomputable def cj9L : Lf := (cj7L.lo 7 0)
noncomputable def cj10L : Lf := (cj9L.hi 7 (24 - 1))
noncomputable def cj11L : Lf := (cj10L.hi 8 (0 - 1))
def cj11T : Sp := (.cut 6 0 (.conj [(1, 0), (2, 0), (3, 0), (4, 0), (5, 0)] .leaf .leaf) (.cut 6 1 (.cut 9 1 (.conj [(1, 0), (2, 0), (3, 0), (4, 0), (5, 0)] (.cut 15 1 .leaf .leaf) .leaf) (.conj [(1, 0), (2, 0), (3, 0), (4, 0), (5, 0)] (.cut 9 9 (.cut 15 1 .leaf .leaf) .leaf) .leaf)) (.conj [(1, 0), (2, 0), (3, 0), (4, 0), (5, 0)] (.cut 6 8 (.cut 9 9 (.cut 15 1 .leaf .leaf) .leaf) .leaf) .leaf)))
noncomputable def cj12L : Lf := (cj10L.lo 8 0)
def cj12T : Sp := (.cut 8 1 (.conj [(1, 0), (2, 0), (3, 0), (4, 0), (5, 0)] (.cut 6 0 .leaf (.cut 6 8 (.cut 9 9 (.cut 15 1 (.cut 6 1 (.cut 9 1 .leaf .leaf) .leaf) (.cut 9 1 (.cut 13 1 (.cut 6 1 .leaf .leaf) (.cut 6 1 .leaf .leaf)) (.cut 13 1 (.cut 6 1 .leaf .leaf) (.cut 6 1 .leaf .leaf)))) (.cut 6 1 .leaf .leaf)) .leaf)) (.cut 6 0 .leaf (.cut 6 1 (.cut 9 1 .leaf .leaf) .leaf))) (.cut 6 0 (.conj [(1, 0), (2, 0), (3, 0), (4, 0), (5, 0)] .leaf .leaf) (.cut 6 1 (.cut 9 1 (.conj [(1, 0), (2, 0), (3, 0), (4, 0), (5, 0)] (.cut 15 1 .leaf .leaf) .leaf) (.conj [(1, 0), (2, 0), (3, 0), (4, 0), (5, 0)] (.cut 9 9 (.cut 15 1 .leaf .leaf) .leaf) .leaf)) (.conj [(1, 0), (2, 0), (3, 0), (4, 0), (5, 0)] (.cut 6 8 (.cut 9 9 (.cut 15 1 .leaf .leaf) .leaf) .leaf) .leaf))))
def cj10T : Sp := .cut 8 0 cj11T cj12T
noncomputable def cj13L : Lf := (cj9L.lo 7 24)
def cj13T : Sp := (.cut 6 0 (.conj [(1, 0), (2, 0), (3, 0), (4, 0), (5, 0)] .leaf .leaf) (.cut 6 1 (.cut 9 1 (.conj [(1, 0), (2, 0), (3, 0), (4, 0), (5, 0)] (.cut 15 1 .leaf .leaf) .leaf) (.conj [(1, 0), (2, 0), (3, 0), (4, 0), (5, 0)] (.cut 9 9 (.cut 15 1 .leaf .leaf) .leaf) .leaf)) (.conj [(1, 0), (2, 0), (3, 0), (4, 0), (5, 0)] (.cut 6 8 (.cut 9 9 (.cut 15 1 .leaf .leaf) .leaf) .leaf) .leaf)))
def cj9T : Sp := .cut 7 24 cj10T cj13T
def cj7T : Sp := .cut 7 0 cj8T cj9T
noncomputable def cj14L : Lf := (cj6L.lo 0 5)
def cj14T : Sp := (.cut 0 6 (.cut 7 0 (.cut 6 0 .leaf (.cut 6 1 (.cut 9 1 (.conj [(10, 0), (11, 0), (12, 0)] (.conj [(1, 0), (2, 0), (3, 0), (4, 0), (5, 0)] .leaf .leaf) .leaf) .leaf) .leaf)) (.cut 7 1 (.cut 8 0 (.cut 6 0 .leaf (.cut 6 1 (.cut 9 1 (.conj [(10, 0), (11, 0), (12, 0)] (.conj [(1, 0), (2, 0), (3, 0), (4, 0), (5, 0)] .leaf .leaf) .leaf) .leaf) .leaf)) (.cut 8 1 (.conj [(1, 0), (2, 0), (3, 0), (4, 0), (5, 0)] (.cut 6 0 .leaf (.cut 6 1 (.cut 9 1 (.conj [(10, 0), (11, 0), (12, 0)] .leaf .leaf) .leaf) .leaf)) (.cut 6 0 .leaf (.cut 6 1 (.cut 9 1 (.conj [(10, 0), (11, 0), (12, 0)] .leaf .leaf) .leaf) .leaf))) (.cut 6 0 .leaf (.cut 6 1 (.cut 9 1 (.conj [(10, 0), (11, 0), (12, 0)] (.conj [(1, 0), (2, 0), (3, 0), (4, 0), (5, 0)] .leaf .leaf) .leaf) .leaf) .leaf)))) (.cut 6 0 .leaf (.cut 6 1 (.cut 9 1 (.conj [(10, 0), (11, 0), (12, 0)] (.conj [(1, 0), (2, 0), (3, 0), (4, 0), (5, 0)] .leaf .leaf) .leaf) .leaf) .leaf)))) (.cut 6 0 .leaf (.cut 6 1 (.cut 9 1 .leaf .leaf) .leaf)))
def cj6T : Sp := .cut 0 5 cj7T cj14T
def cj0T : Sp := .cut 0 4 cj1T cj6T
theorem jA_cj2 : (cj2T.leaves cj2L).all (jAt m8 87) = true := by kernel_rfl
theorem jA_cj4 : (cj4T.leaves cj4L).all (jAt m8 87) = true := by kernel_rfl
theorem jA_cj5 : (cj5T.leaves cj5L).all (jAt m8 87) = true := by kernel_rfl
theorem jA_cj8 : (cj8T.leaves cj8L).all (jAt m8 87) = true := by kernel_rfl
theorem jA_cj11 : (cj11T.leaves cj11L).all (jAt m8 87) = true := by kernel_rfl
theorem jA_cj12 : (cj12T.leaves cj12L).all (jAt m8 87) = true := by kernel_rfl
theorem jA_cj13 : (cj13T.leaves cj13L).all (jAt m8 87) = true := by kernel_rfl
theorem jA_cj14 : (cj14T.leaves cj14L).all (jAt m8 87) = true := by kernel_rfl
theorem jA_cj3 : (cj3T.leaves cj3L).all (jAt m8 87) = true := by
  have e : cj3T.leaves cj3L = cj4T.leaves cj4L ++ cj5T.leaves cj5L := rfl
  rw [e]
  simp only [List.all_append, jA_cj4, jA_cj5, Bool.and_self]
theorem jA_cj1 : (cj1T.leaves cj1L).all (jAt m8 87) = true := by
  have e : cj1T.leaves cj1L = cj2T.leaves cj2L ++ cj3T.leaves cj3L := rfl
  rw [e]
  simp only [List.all_append, jA_cj2, jA_cj3, Bool.and_self]
theorem jA_cj10 : (cj10T.leaves cj10L).all (jAt m8 87) = true := by
  have e : cj10T.leaves cj10L = cj11T.leaves cj11L ++ cj12T.leaves cj12L := rfl
  rw [e]
  simp only [List.all_append, jA_cj11, jA_cj12, Bool.and_self]
theorem jA_cj9 : (cj9T.leaves cj9L).all (jAt m8 87) = true := by
  have e : cj9T.leaves cj9L = cj10T.leaves cj10L ++ cj13T.leaves cj13L := rfl
  rw [e]
  simp only [List.all_append, jA_cj10, jA_cj13, Bool.and_self]
theorem jA_cj7 : (cj7T.leaves cj7L).all (jAt m8 87) = true := by
  have e : cj7T.leaves cj7L = cj8T.leaves cj8L ++ cj9T.leaves cj9L := rfl
  rw [e]
  simp only [List.all_append, jA_cj8, jA_cj9, Bool.and_self]
theorem jA_cj6 : (cj6T.leaves cj6L).all (jAt m8 87) = true := by
  have e : cj6T.leaves cj6L = cj7T.leaves cj7L ++ cj14T.leaves cj14L := rfl
  rw [e]
  simp only [List.all_append, jA_cj7, jA_cj14, Bool.and_self]
theorem jA_cj0 : (cj0T.leaves cj0L).all (jAt m8 87) = true := by
  have e : cj0T.leaves cj0L = cj1T.leaves cj1L ++ cj6T.leaves cj6L := rfl
  rw [e]
  simp only [List.all_append, jA_cj1, jA_cj6, Bool.and_self]
theorem jA_tests : TestsJ 87 v8 := jump_tests m8_ok (sp := cj0T) jA_cj0
theorem jV_cj2 : (cj2T.leaves cj2L).all (jAt mB 78) = true := by kernel_rfl
theorem jV_cj4 : (cj4T.leaves cj4L).all (jAt mB 78) = true := by kernel_rfl
theorem jV_cj5 : (cj5T.leaves cj5L).all (jAt mB 78) = true := by kernel_rfl
theorem jV_cj8 : (cj8T.leaves cj8L).all (jAt mB 78) = true := by kernel_rfl
theorem jV_cj11 : (cj11T.leaves cj11L).all (jAt mB 78) = true := by kernel_rfl
theorem jV_cj12 : (cj12T.leaves cj12L).all (jAt mB 78) = true := by kernel_rfl
theorem jV_cj13 : (cj13T.leaves cj13L).all (jAt mB 78) = true := by kernel_rfl
theorem jV_cj14 : (cj14T.leaves cj14L).all (jAt mB 78) = true := by kernel_rfl
theorem jV_cj3 : (cj3T.leaves cj3L).all (jAt mB 78) = true := by
  have e : cj3T.leaves cj3L = cj4T.leaves cj4L ++ cj5T.leaves cj5L := rfl
  rw [e]
  simp only [List.all_append, jV_cj4, jV_cj5, Bool.and_self]
theorem jV_cj1 : (cj1T.leaves cj1L).all (jAt mB 78) = true := by
  have e : cj1T.leaves cj1L = cj2T.leaves cj2L ++ cj3T.leaves cj3L := rfl
  rw [e]
  simp only [List.all_append, jV_cj2, jV_cj3, Bool.and_self]
theorem jV_cj10 : (cj10T.leaves cj10L).all (jAt mB 78) = true := by
  have e : cj10T.leaves cj10L = cj11T.leaves cj11L ++ cj12T.leaves cj12L := rfl
  rw [e]
  simp only [List.all_append, jV_cj11, jV_cj12, Bool.and_self]
theorem jV_cj9 : (cj9T.leaves cj9L).all (jAt mB 78) = true := by
  have e : cj9T.leaves cj9L = cj10T.leaves cj10L ++ cj13T.leaves cj13L := rfl
  rw [e]
  simp only [List.all_append, jV_cj10, jV_cj13, Bool.and_self]
theorem jV_cj7 : (cj7T.leaves cj7L).all (jAt mB 78) = true := by
  have e : cj7T.leaves cj7L = cj8T.leaves cj8L ++ cj9T.leaves cj9L := rfl
  rw [e]
  simp only [List.all_append, jV_cj8, jV_cj9, Bool.and_self]
theorem jV_cj6 : (cj6T.leaves cj6L).all (jAt mB 78) = true := by
  have e : cj6T.leaves cj6L = cj7T.leaves cj7L ++ cj14T.leaves cj14L := rfl
  rw [e]
  simp only [List.all_append, jV_cj7, jV_cj14, Bool.and_self]
theorem jV_cj0 : (cj0T.leaves cj0L).all (jAt mB 78) = true := by
  have e : cj0T.leaves cj0L = cj1T.leaves cj1L ++ cj6T.leaves cj6L := rfl
  rw [e]
  simp only [List.all_append, jV_cj1, jV_cj6, Bool.and_self]
theorem jV_tests : TestsJ 78 .bool := jump_tests mB_ok (sp := cj0T) jV_cj0
end Go.Proofs.YthdcahkedlijpaaGreat.Am
namespace Go.Proofs.YthdcahkedlijpaaGreat.Am
open Go.RowKit
set_option linter.unusedVariables false
set_option linter.unusedSectionVars false
def imp (a b : E) : E := .or (.not a) b
def isE (i : Nat) (c : Int) : E := .zero [(i, c)]
def ands : List E → E
  | [] => .zero []
  | [e] => e
  | e :: r => .and e (ands r)
def okTyE : E := .or (.and (.or (isE 0 1) (isE 0 2)) (isE 1 0)) (ands [.not (.lt 0 3), .lt 0 6, .or (isE 1 1) (isE 1 2)])
def okTy (t : List Value) : Bool := okTyE.num (cellI t)
def tab0 : Tabs := ⟨[], [(0, .c 0, typCells)], []⟩
theorem tab_elC {e : Env} {v : Value} {sz k n : Nat} {els : List (List Value)} {el : List Value} {cs : List S} (h : ListAt e.w v sz els) (hl : e.b.lst k = ⟨v, els⟩) (he : els[n]? = some el) (hs : cs.length = sz) (hc : All2 (fun x v => ∀ r, @VS e.b r x v) cs el) :
    @TabsOk e.b ⟨[], [(k, .c n, cs)], []⟩ := by
  refine @TabsOk.mk e.b _ (fun _ _ h => (by cases h)) (fun l m ds hh => ?_) (fun _ _ _ h => (by cases h))
  have hh : (bif Nat.beq k l && (N.c n).eqv m then some cs else none) = some ds := hh
  cases hb : (Nat.beq k l && (N.c n).eqv m) <;> rw [hb] at hh <;> cases hh
  simp only [Bool.and_eq_true] at hb
  rw [← Nat.eq_of_beq_eq_true hb.1, ← N.eqv_ok hb.2]
  exact h.el (b := e.b) (i := .c n) rfl rfl hl (n := n) rfl he hs hc
theorem tab0_ok {w : World} {v : Value} {D : FnD} (h : FnOk' w v D) (q : At) (hq : q.t = 0) (hl : 0 < D.ls.length) (more : List Int) : @TabsOk (fnB w D q more) tab0 := by
  have := typ_cells h (q := q) (by omega) more
  rw [hq] at this
  exact tab_elC (e := fnE w D q more) h.locals rfl (n := 0) (typ_is h hl).2 rfl this
end Go.Proofs.YthdcahkedlijpaaGreat.Am
namespace Go.Proofs.YthdcahkedlijpaaGreat.head
open Go.RowKit Go.Proofs.YthdcahkedlijpaaGreat.Am
set_option maxRecDepth 100000
set_option linter.unusedVariables false
set_option linter.unusedSectionVars false
def guard (D : FnD) : Bool := decide (0 < D.ls.length) && (decide (0 ≤ D.p) && (decide (D.p ≤ 8) && decide (D.p < D.ls.length)))
def ptr0 (D : FnD) : Bool := !decide (cellI (D.typ 0) 1 = 0)
def headF (D : FnD) : Bool := guard D && (D.ls.all okTy && !ptr0 D)
noncomputable def f : FuncId := 68
noncomputable def F : Func := Tryz.f68
noncomputable def code : Code := loopAt F 0
noncomputable def hd : St := ⟨frOf F.ntmps [(1, .ptr 0 0), (30, .rv 0), (31, .xi .i64 2), (32, .xi .i64 58)], ⟨[(0, ⟨fnCells, true⟩)], 1⟩⟩
noncomputable def sN : St := ⟨frOf F.ntmps [(1, .ptr 0 0)], ⟨[(0, ⟨fnCells, true⟩)], 1⟩⟩
noncomputable def sR : St := ⟨frOf F.ntmps [(2, .bool false)], ⟨[], 1⟩⟩
def hTy : HT := .of [⟨false, 62, 1⟩, ⟨false, 61, 2⟩, ⟨false, 61, 3⟩, ⟨false, 61, 1⟩, ⟨false, 62, 2⟩, ⟨false, 62, 3⟩, ⟨false, 61, 4⟩, ⟨false, 61, 5⟩, ⟨false, 61, 6⟩]
def okN : E := okTyE.ren (61 + ·)
noncomputable def test (tb : Tabs) (giv : List (E × Bool)) (us : List Upd) (x : X) (s1 : St) : Lf → Bool := turnT (rigP libN tb noLoops) f fnFx giv us ⟨4, 0, 3⟩ code hd x s1
noncomputable def L1 : Lf := (Lf.of (fnIv ++ [])).pin 60 1
noncomputable def L3 : Lf := (Lf.of (fnIv ++ [])).pin 60 0
theorem step : autoB (test (tabF.app tabT) [(okN, true)] [isU (.xi .i64 58) (.xi .i64 59)] .normal hd) hTy L1 = true := by kernel_rfl
theorem bad : autoB (test (tabF.app tabT) [(okN, false)] [] .ret sR) hTy L1 = true := by kernel_rfl
theorem stop : autoB (test tabF [] [] (.exit 0) sN) .leaf L3 = true := by kernel_rfl
def th0 : Th := [(.xi .i64 58, .int .i64 0)]
noncomputable def row (x : X) (s1 : St) : Loops := rowL 5 ⟨4, 0, 3⟩ th0 hd x s1
def guardE : E := ands [.not (.lt 2 1), .not (.lt 0 0), .lt 0 9, isE 76 1]
noncomputable def LG : Lf := Lf.of (fnIv ++ [])
noncomputable def LS : Lf := ((((Lf.of (fnIv ++ [])).lo 2 1).lo 0 0).hi 0 8).pin 76 1
theorem no_run : autoB (callT (rigP libN tabF noLoops) f fnFx [(guardE, false)] [] (fun _ => V.s (.bool false)) [.g fnCells]) (.of [⟨false, 2, 1⟩, ⟨false, 0, 0⟩, ⟨false, 0, 9⟩, ⟨false, 76, 1⟩]) LG = true := by kernel_rfl
theorem bad_run : autoB (callT (rigP libN tabF (fun _ => rowsL [(f, row .ret sR)])) f fnFx [] [] (fun _ => V.s (.bool false)) [.g fnCells]) .leaf LS = true := by kernel_rfl
theorem good_run : autoB (callT (rigP libN (tabF.app tab0) (fun _ => rowsL [(f, row (.exit 0) sN)])) f fnFx [(okN, true)] [isE 62 0] (fun bs => V.s (.bool (bs.headD false))) [.g fnCells]) hTy LS = true := by kernel_rfl
theorem tag : tagsOk (F.body.getD .skip) 0 5 = true := by kernel_rfl
section
variable {w : World} {v : Value} {D : FnD} (h : FnOk' w v D)
include h
theorem start (q : At) (hq : Fits D q) : (Lf.of (fnIv ++ [])).Holds (xsAt (fnXs D q ([] ++ []))) (fun _ => []) := fn_start h hq (iv := []) (m1 := []) (m2 := []) trivial _
theorem turn {tb : Tabs} {giv : List (E × Bool)} {us : List Upd} {s1 : St} {x : X} {hs : HT} {L : Lf} {q q' : At} (ht : @TabsOk (fnB w D q []) tb) (hL : L.Holds (xsAt (fnXs D q [])) (fun _ => [])) (hg : ∀ p ∈ giv, p.1.num (xsAt (fnXs D q [])) = p.2) (hus : ∀ u ∈ us, UpdOk (fnB w D q []) (fnB w D q' []) u) (hnx : s1.h.next = 1)
    (hrun : autoB (test tb giv us x s1) hs L = true) : TurnsS Tryz.prog (fnB w D q []) (fnB w D q' []) code hd x s1 := by
  refine ⟨fun r B a w1 hr => ?_⟩
  exact turn_auto (rig_plain ht) (agree_fn q q' [] []) hnx.symm hL (fnFx_ok D q []) hg hus (fun K ok => no_loop K ok code) hrun hr
theorem row_ok (hl : D.ls.length ≤ 1000) {b : Bool} (hb : D.ls.all okTy = b) (K : Know) (ok : KnowOk K (fnB w D (atT 0) []).rho (fnB w D (atT 0) []).sig) :
    @LoopOk ((fnB w D (atT 0) []).withK K ok) Tryz.prog (row (if b then .exit 0 else .ret) (if b then sN else sR)) code := by
  have hin : ∀ k, k < D.ls.length → L1.Holds (xsAt (fnXs D (atT k) [])) (fun _ => []) := fun k hk => (start h (atT k) (fits_T (by omega))).pin (i := 60) (c := 1) (show b2i (decide ((k : Int) < D.ls.length)) = 1 from (one_iff _).2 (by omega))
  have htb : ∀ k, k < D.ls.length → @TabsOk (fnB w D (atT k) []) (tabF.app tabT) := fun k hk => @tabs_app (fnB w D (atT k) []) tabF tabT (tabF_ok h _ _) (tabT_ok h (q := atT k) hk _)
  have hok : ∀ k b, okTy (D.typ k) = b → ∀ p ∈ [(okN, b)], p.1.num (xsAt (fnXs D (atT k) [])) = p.2 := fun k b e p hp => by
    obtain rfl := List.mem_singleton.1 hp
    exact (typ_num (atT k) [] (e := okTyE) rfl).trans e
  have hstep : ∀ k, k < D.ls.length → okTy (D.typ k) = true → TurnsS Tryz.prog (fnB w D (atT k) []) (fnB w D (atT (k + 1)) []) code hd .normal hd := fun k hk e => by
    refine turn h (htb k hk) (hin k hk) (hok k true e) (fun u hu => ?_) rfl step
    obtain rfl := List.mem_singleton.1 hu
    exact isU_ok fun r v hv => hv
  have hend : TurnsS Tryz.prog (fnB w D (atT D.ls.length) []) (fnB w D (atT 0) []) code hd (.exit 0) sN :=
    turn h (tabF_ok h _ _) (L := L3) ((start h (atT D.ls.length) (fits_T (by omega))).pin (i := 60) (c := 0) (show b2i (decide ((D.ls.length : Int) < D.ls.length)) = 0 by rw [decide_eq_false (by omega)]; rfl)) (fun p hp => by cases hp) (fun u hu => by cases hu) rfl stop
  have hth : Th.ok (fnB w D (atT 0) []) (fnB w D (atT 0) []) th0 := th_one fun r v hv => hv
  cases b with
  | true =>
    have hall := (all_at D.ls [] okTy).2 hb
    exact @rounds_ok _ _ (fun k => fnB w D (atT k) []) code _ _ hd _ _ (fun e => by cases e) D.ls.length (agree_fn _ _ [] []) hth (fun k hk => hstep k hk (hall k hk)) hend 5 K ok
  | false =>
    rcases first_not (fun i => okTy (D.typ i)) D.ls.length with hall | ⟨N, hN, h0, hn⟩
    · rw [(all_at D.ls [] okTy).1 hall] at hb
      cases hb
    · exact @rounds_ok _ _ (fun k => fnB w D (atT k) []) code _ _ hd _ _ (fun e => by cases e) N (agree_fn _ _ [] []) hth (fun k hk => hstep k (by omega) (h0 k hk)) (turn h (htb N hN) (hin N hN) (hok N false hn) (fun u hu => by cases hu) rfl bad) 5 K ok
theorem guard_num (q : At) : guardE.num (xsAt (fnXs D q [])) = guard D := by
  show ((!decide ((D.ls.length : Int) < 1)) && ((!decide (D.p < 0)) && (decide (D.p < 9) && (decide (b2i (decide (D.p < D.ls.length)) = 1) && true)))) = _
  unfold guard
  rw [Bool.and_true, decide_eq_decide.2 (one_iff (D.p < D.ls.length)), ← decide_not, ← decide_not]
  congr 1
  · exact decide_eq_decide.2 (by omega)
  congr 1
  · exact decide_eq_decide.2 (by omega)
  congr 1
  exact decide_eq_decide.2 (by omega)
theorem head_ans (hl : D.ls.length ≤ 1000) : Answers f [v] w (.bool (headF D)) := by
  have hst := start h (atT 0) (fits_T (by omega))
  have hval : All2 (@VA (fnB w D (atT 0) []) r0) [.g fnCells] [v] := ⟨fn_val h (atT 0) [] r0, trivial⟩
  have key : ∀ {R : Rig} {L0 : Lf} {hs : HT} {giv : List (E × Bool)} {es : List E} {g : List Bool → V} {b : Bool}, RigOk Tryz.prog R (fnB w D (atT 0) []) → L0.Holds (xsAt (fnXs D (atT 0) [])) (fun _ => []) → (∀ p ∈ giv, p.1.num (xsAt (fnXs D (atT 0) [])) = p.2) →
      g (es.map (E.num (xsAt (fnXs D (atT 0) [])))) = V.s (.bool b) → autoB (callT R f fnFx giv es g [.g fnCells]) hs L0 = true → Answers f [v] w (.bool b) := fun {R L0 hs giv es g b} hR hL hg e hrun => by
    have := calls_auto (b := fnB w D (atT 0) []) (w := w) (Nat.le_refl _) (fun _ _ => rfl) hR hL (fnFx_ok D _ _) hg hval hrun
    rw [show (fnB w D (atT 0) []).rho = xsAt (fnXs D (atT 0) []) from rfl, e] at this
    exact Answers.of (b := fnB w D (atT 0) []) (v := V.s (.bool b)) (fun r x hx => hx) this
  cases hg : guard D with
  | false =>
    rw [show headF D = false by unfold headF; rw [hg]; rfl]
    refine key (rig_plain (tabF_ok h _ _)) hst (fun p hp => ?_) rfl no_run
    obtain rfl := List.mem_singleton.1 hp
    exact (guard_num h _).trans hg
  | true =>
    have hg' := hg
    unfold guard at hg'
    simp only [Bool.and_eq_true, decide_eq_true_eq] at hg'
    obtain ⟨g1, g2, g3, g4⟩ := hg'
    have hLS : LS.Holds (xsAt (fnXs D (atT 0) [])) (fun _ => []) := (((hst.lo (i := 2) (c := 1) (show (1 : Int) ≤ (D.ls.length : Int) by omega)).lo (i := 0) (c := 0) g2).hi (i := 0) (c := 8) g3).pin (i := 76) (c := 1) ((one_iff _).2 g4)
    have hrow := fun {b : Bool} (hb : D.ls.all okTy = b) => one_row (bo := fnB w D (atT 0) []) (F := F) (row := row (if b then .exit 0 else .ret) (if b then sN else sR)) Tryz.func68 fun K ok c hc => row_fn tag (row_ok h hl hb K ok) hc
    cases hb : D.ls.all okTy with
    | false =>
      rw [show headF D = false by unfold headF; rw [hg, hb]; rfl]
      exact key (rig_ok lib_none (tabF_ok h _ _) (hrow hb)) hLS (fun p hp => by cases hp) rfl bad_run
    | true =>
      rw [show headF D = !ptr0 D by unfold headF; rw [hg, hb]; rfl]
      refine key (rig_ok lib_none (@tabs_app (fnB w D (atT 0) []) tabF tab0 (tabF_ok h _ _) (tab0_ok h (atT 0) rfl g1 [])) (hrow hb)) hLS (fun p hp => ?_) ?_ good_run
      · obtain rfl := List.mem_singleton.1 hp
        exact (typ_num (atT 0) [] (e := okTyE) rfl).trans ((all_at D.ls [] okTy).2 hb 0 g1)
      · show V.s (.bool (decide (cellI (D.typ 0) 1 = 0) && true)) = _
        unfold ptr0
        rw [Bool.and_true, Bool.not_not]
end
end Go.Proofs.YthdcahkedlijpaaGreat.head
namespace Go.Proofs.YthdcahkedlijpaaGreat.Am
open Go.RowKit
set_option maxRecDepth 100000
set_option linter.unusedVariables false
set_option linter.unusedSectionVars false
def stV (nL : Int) (st : List Value) (i : Nat) : Int := if i < 26 then cellI st i else [ltI' (cellI st 25) nL, ltI' (cellI st 1) nL, ltI' (cellI st 9) nL, ltI' (cellI st 14) nL, ltI' (cellI st 17) nL, ltI' (cellI st 22) nL].getD (i - 26) 0
def nearE : E := ands [imp (isE 0 3) (isE 26 1), imp (.or (isE 0 2) (isE 0 4)) (.or (isE 20 1) (isE 31 1)),
  imp (isE 0 1) (ands [isE 27 1, imp (.or (isE 4 4) (isE 4 5)) (isE 30 1), imp (.not (.or (isE 4 4) (isE 4 5))) (.or (isE 7 1) (isE 28 1)), imp (.or (isE 4 2) (isE 4 3)) (.or (isE 12 1) (isE 29 1))])]
def nearS (nL : Int) (st : List Value) : Bool := nearE.num (stV nL st)
def toS (i : Nat) : Nat := if i < 26 then 24 + i else 37 + i
theorem near_num {D : FnD} (q : At) (more : List Int) : (nearE.ren toS).num (xsAt (fnXs D q more)) = nearS D.ls.length (D.stm q.i q.k) := by
  refine E.num_ren (n := 32) rfl fun j hj => ?_
  by_cases h : j < 26
  · unfold toS stV
    rw [if_pos h, if_pos h]
    have e : fnXs D q more = (xsHd D ++ (xsB D q ++ [(q.k : Int), (q.k : Int) + 1, ltI' q.k (D.blk q.i).st.length])) ++ (cods 26 (D.stm q.i q.k) ++ (xsO D q ++ (xsT D q ++ (xsC D q ++ more)))) := by simp [fnXs, xsS, xsEl]
    rw [e]
    exact (xsAt_ge (n := 24) rfl).trans (cods_any h _)
  · have : j = 26 ∨ j = 27 ∨ j = 28 ∨ j = 29 ∨ j = 30 ∨ j = 31 := by omega
    rcases this with rfl | rfl | rfl | rfl | rfl | rfl <;> rfl
def opNear (nL : Int) (op : List Value) : Bool := decide (cellI op 0 = 1) || decide (cellI op 2 < nL)
def okSN : E := okStE.ren (24 + ·)
theorem okS_num {D : FnD} (q : At) (more : List Int) : okSN.num (xsAt (fnXs D q more)) = okStE.val (D.stm q.i q.k) := (stm_num q more (e := okStE) (by decide)).trans (E.val_num _ _).symm
section
variable {w : World} {v : Value} {D : FnD} (h : FnOk' w v D)
include h
theorem row_stm {F : FuncId} {val : Bool → Value} {mk : Bool → V} (hF : Callable Tryz.prog F) (ht : Tests Tryz.prog anyW F kSt okStE val) (hu : ∀ (b0 : Base) r b, @VV b0 r (mk b) (val b)) {q : At} (hi : q.i < D.bs.length) (hk : q.k < (D.blk q.i).st.length) {b : Bool} (hb : okStE.val (D.stm q.i q.k) = b) (m : List Int)
    (K : Know) (ok : KnowOk K (fnB w D q m).rho (fnB w D q m).sig) : @Sound ((fnB w D q m).withK K ok) Tryz.prog (rowG F [.g stmCells] (mk b)) := by
  have hc := stm_cells h hi hk m
  refine @sound_rowG ((fnB w D q m).withK K ok) _ F hF _ _ (by rfl) [.agg (D.stm q.i q.k).toArray] ⟨⟨_, rfl, ?_⟩, trivial⟩ (val b) (fun r => hu _ r b) fun w' _ => ?_
  · refine all2_by_nth hc.len fun i x u hx hu => ?_
    obtain ⟨u', hu', e⟩ := All2.nth hc (n := i) (x := x) (by rw [nth_eq]; exact hx)
    rw [hu] at hu'
    cases hu'
    exact e r0
  · rw [← hb]
    exact ht (D.stm q.i q.k) (stm_is h hi hk).1 w' trivial
theorem jump_is {i : Nat} (hi : i < D.bs.length) : JumpIs w (.agg ((D.blk i).pre ++ (D.blk i).a :: (D.blk i).post).toArray) (D.blk i).pre (D.blk i).a (D.blk i).post (D.blk i).ops := by
  have b := (blk_is h hi).1
  exact ⟨rfl, b.prek, b.postk, ⟨b.opl.sl, b.opl.most, b.opl.at_, fun i el he => b.okd el (List.mem_of_getElem? he), b.opl.cap⟩⟩
def okJF (b : BlkD) : Bool := okJ b.pre b.ops b.post
theorem row_jmp {F : FuncId} {val : Bool → Value} {mk : Bool → V} (hF : Callable Tryz.prog F) (ht : TestsJ F val) (hu : ∀ (b0 : Base) r b, @VV b0 r (mk b) (val b)) {q : At} (hi : q.i < D.bs.length) {b : Bool} (hb : okJF (D.blk q.i) = b) (m : List Int)
    (K : Know) (ok : KnowOk K (fnB w D q m).rho (fnB w D q m).sig) : @Sound ((fnB w D q m).withK K ok) Tryz.prog (rowG F [.g jmpCells] (mk b)) := by
  have hc := jmp_cells h hi q rfl m
  refine @sound_rowG ((fnB w D q m).withK K ok) _ F hF _ _ (by rfl) [.agg ((D.blk q.i).pre ++ (D.blk q.i).a :: (D.blk q.i).post).toArray] ⟨⟨_, rfl, ?_⟩, trivial⟩ (val b) (fun r => hu _ r b) fun w' hw => ?_
  · refine all2_by_nth hc.len fun i x u hx hu => ?_
    obtain ⟨u', hu', e⟩ := All2.nth hc (n := i) (x := x) (by rw [nth_eq]; exact hx)
    rw [hu] at hu'
    cases hu'
    exact e r0
  · rw [← hb]
    exact ht w' _ _ _ _ _ (jump_is (h.frz hw) hi)
theorem row_fnD {F : FuncId} {u : Value} {mv : V} (hF : Callable Tryz.prog F) (hu : ∀ (b0 : Base) r, @VV b0 r mv u) (q : At) (m : List Int) (ha : ∀ w', FnOk' w' v D → Answers F [v] w' u)
    (K : Know) (ok : KnowOk K (fnB w D q m).rho (fnB w D q m).sig) : @Sound ((fnB w D q m).withK K ok) Tryz.prog (rowG F [.g fnCells] mv) :=
  @sound_rowG ((fnB w D q m).withK K ok) _ F hF _ _ (by rfl) [v] ⟨fn_val h q m r0, trivial⟩ u (fun r => hu _ r) fun w' hw => ha w' (h.frz hw)
end
theorem vm8 (b0 : Base) (r : Ren) (b : Bool) : @VV b0 r (m8 b) (v8 b) := by cases b <;> rfl
theorem vmB (b0 : Base) (r : Ren) (b : Bool) : @VV b0 r (mB b) (.bool b) := rfl
end Go.Proofs.YthdcahkedlijpaaGreat.Am
namespace Go.Proofs.YthdcahkedlijpaaGreat.made
open Go.RowKit Go.Proofs.YthdcahkedlijpaaGreat.Am
set_option maxRecDepth 100000
set_option linter.unusedVariables false
set_option linter.unusedSectionVars false
noncomputable def f : FuncId := 45
noncomputable def F : Func := Tryz.f45
noncomputable def codeO : Code := loopAt F 0
noncomputable def codeI : Code := loopAt F 1
noncomputable def near : S := .fn 69 [(1, 0), (0, 0)]
def R : S := .xe [(77, 1)]
noncomputable def keepO : List (Nat × S) := [(1, .ptr 0 0), (3, .ptr 1 0), (4, near), (23, .rv 1), (24, .xi .i64 3)]
noncomputable def keepI : List (Nat × S) := keepO ++ [(25, .xi .i64 4), (6, .ptr 2 0)]
def hpO (r : S) : Hp := [(1, ⟨[r], true⟩), (0, ⟨fnCells, true⟩)]
def hpI (r : S) : Hp := (2, ⟨blkCells, true⟩) :: hpO r
noncomputable def hdO : St := ⟨frOf F.ntmps (keepO ++ [(25, .xi .i64 4)]), ⟨hpO R, 2⟩⟩
noncomputable def hdI : St := ⟨frOf F.ntmps (keepI ++ [(30, .rv 3), (31, .xi .i64 7), (32, .xi .i64 21)]), ⟨hpI R, 3⟩⟩
noncomputable def sNO : St := ⟨frOf F.ntmps keepO, ⟨hpO (.xe [(78, 1)]), 2⟩⟩
noncomputable def sNI : St := ⟨frOf F.ntmps keepI, ⟨hpI (.xe [(78, 1)]), 3⟩⟩
noncomputable def sRO : St := ⟨frOf F.ntmps [(2, .bool false)], ⟨[], 2⟩⟩
noncomputable def sRI : St := ⟨frOf F.ntmps [(2, .bool false)], ⟨[], 3⟩⟩
def opT (k d : Nat) (t : HT) : HT := .by k 1 (.both d 1 t) (.by k 2 t (.by k 3 (.both d 1 t) (.by k 4 (.both d 1 t) (.both d 1 t))))
def rvT' : HT := .on 28 1 .leaf (.on 28 2 (opT 31 65 .leaf) (.on 28 3 (opT 31 65 (opT 36 66 .leaf)) (.on 28 4 (opT 31 65 (opT 36 66 .leaf)) (.by 28 6 (.by 28 5 (.both 67 1 .leaf) (.both 67 1 .leaf)) .leaf))))
def stT' : HT := .on 24 1 .leaf (.on 24 2 (.both 64 1 rvT') (.on 24 3 (opT 44 68 .leaf) (.on 24 4 (.both 63 1 .leaf) (.by 24 5 (opT 44 68 .leaf) .leaf))))
def hSt : HT := .on 77 1 stT' stT'
def nearN : E := .and (isE 77 1) (nearE.ren toS)
noncomputable def libS (b : Bool) : Know → Oracle := fun _ => rowG 70 [.g stmCells] (m8 b)
noncomputable def L1 : Lf := ((Lf.of (fnIv ++ [ivB])).pin 6 1).pin 23 1
noncomputable def L3 : Lf := ((Lf.of (fnIv ++ [ivB])).pin 6 1).pin 23 0
noncomputable def tbI : Tabs := tabF.app (tabB.app tabS)
noncomputable def stepT : Lf → Bool := turnT (rigP (libS true) tbI noLoops) f fnFx [(okSN, true)] [isU (.xi .i64 21) (.xi .i64 22), bitU R nearN, keepU 77 nearN 77] ⟨21, 0, 5⟩ codeI hdI .normal hdI
theorem auto_cut {test : Lf → Bool} {i : Nat} {c : Int} {a b : HT} {f : Bool} {L : Lf} (h1 : below L i c = false) (h2 : above L i c = false) (ha : autoB test a (L.hi i (c - 1)) = true) (hb : autoB test b (L.lo i c) = true) : autoB test (.cut f i c a b) L = true := by
  show (bif below L i c then autoB test a L else bif above L i c then autoB test b L else (bif f then false else test L) || (autoB test a (L.hi i (c - 1)) && autoB test b (L.lo i c))) = true
  rw [h1, h2, ha, hb]
  simp
theorem stepIa : autoB stepT stT' (L1.hi 77 0) = true := by kernel_rfl
theorem stepIb : autoB stepT stT' (L1.lo 77 1) = true := by kernel_rfl
theorem stepI : autoB (turnT (rigP (libS true) tbI noLoops) f fnFx [(okSN, true)] [isU (.xi .i64 21) (.xi .i64 22), bitU R nearN, keepU 77 nearN 77] ⟨21, 0, 5⟩ codeI hdI .normal hdI) hSt L1 = true := auto_cut (test := stepT) (by kernel_rfl) (by kernel_rfl) stepIa stepIb
theorem badI : autoB (turnT (rigP (libS false) tbI noLoops) f fnFx [] [] ⟨21, 0, 5⟩ codeI hdI .ret sRI) .leaf L1 = true := by kernel_rfl
theorem stopI : autoB (turnT (rigP libN (tabF.app tabB) noLoops) f fnFx [] [isU (.xe [(78, 1)]) R] ⟨21, 0, 5⟩ codeI hdI (.exit 2) sNI) .leaf L3 = true := by kernel_rfl
noncomputable def fO : FuncId := 91
noncomputable def FO : Func := Tryz.f91
noncomputable def codeA : Code := loopAt FO 0
def hpA (r : S) : Hp := (4, ⟨[.xi .i64 15], true⟩) :: hpO r
noncomputable def hdA : St := ⟨frOf FO.ntmps [(1, .bool true), (2, near), (8, .rv 4), (9, .xi .i64 17), (10, .xi .i64 50)], ⟨hpA R, 7⟩⟩
noncomputable def sNA : St := ⟨frOf FO.ntmps [], ⟨hpA (.xe [(79, 1)]), 7⟩⟩
def hOp : HT := .on 77 1 (opT 53 71 .leaf) (opT 53 71 .leaf)
def nearA : E := .and (isE 77 1) (.or (isE 53 1) (isE 71 1))
noncomputable def L5 : Lf := ((Lf.of (fnIv ++ [ivB])).pin 6 1).pin 52 1
noncomputable def L6 : Lf := ((Lf.of (fnIv ++ [ivB])).pin 6 1).pin 52 0
theorem stepA : autoB (turnT (rigP libN (tabF.app (tabB.app tabA)) noLoops) fO fnFx [] [isU (.xi .i64 50) (.xi .i64 51), bitU R nearA, keepU 77 nearA 77] ⟨21, 0, 5⟩ codeA hdA .normal hdA) hOp L5 = true := by kernel_rfl
theorem stopA : autoB (turnT (rigP libN (tabF.app tabB) noLoops) fO fnFx [] [isU (.xe [(79, 1)]) R] ⟨21, 0, 5⟩ codeA hdA (.exit 0) sNA) .leaf L6 = true := by kernel_rfl
def usI : List Upd := [isU (.xi .i64 21) (.int .i64 0), isU R R]
def usA : List Upd := [isU (.xi .i64 50) (.int .i64 0), ⟨R, [isE 78 1], fun bs => bif bs.headD false then .xe [(70, 1)] else .bool false⟩, bitU R (.and (isE 78 1) (isE 70 1))]
noncomputable def rowI (x : X) (s1 : St) (K : Know) : Loops := rowL 8 ⟨21, 0, 5⟩ (@thU K usI) hdI x s1
noncomputable def rowA (K : Know) : Loops := rowL 2 ⟨21, 0, 5⟩ (@thU K usA) hdA (.exit 0) sNA
noncomputable def rowsO (K : Know) : FuncId → Loops := rowsL [(f, rowI (.exit 2) sNI K), (fO, rowA K)]
noncomputable def rowsB (K : Know) : FuncId → Loops := rowsL [(f, rowI .ret sRI K)]
noncomputable def libJ (b : Bool) : Know → Oracle := fun _ => rowG 87 [.g jmpCells] (m8 b)
def outE : E := ands [imp (isE 8 2) (.and (isE 78 1) (.or (isE 9 1) (isE 69 1))), imp (isE 8 4) (isE 79 1), imp (.and (.not (isE 8 2)) (.not (isE 8 4))) (isE 78 1), imp (.not (.or (isE 8 3) (isE 8 5))) (isE 72 1), imp (isE 8 2) (.or (isE 74 1) (isE 73 1))]
def b1 (i : Nat) (t : HT) : HT := .on i 1 t t
def gotoT : HT := b1 78 (b1 72 .leaf)
def hJm : HT := .on 8 2 gotoT (.on 8 3 (b1 78 (.by 9 1 (.both 69 1 (b1 72 (b1 74 (b1 73 .leaf)))) (.by 9 2 (b1 72 (b1 74 (b1 73 .leaf))) (.both 69 1 (b1 72 (b1 74 (b1 73 .leaf))))))) (.on 8 4 (b1 78 .leaf) (.on 8 5 (b1 78 (b1 70 (b1 79 (b1 72 .leaf)))) (.on 8 6 (b1 78 .leaf) gotoT))))
noncomputable def L7 : Lf := (Lf.of (fnIv ++ [ivB, ivB, ivB])).pin 6 1
noncomputable def L8 : Lf := (Lf.of (fnIv ++ [ivB])).pin 6 0
noncomputable def tbO : Tabs := tabF.app tabB
theorem stepO : autoB (turnT (rigP (libJ true) tbO rowsO) f fnFx [] [isU (.xi .i64 4) (.xi .i64 5), bitU R outE, keepU 77 outE 78, keepU 77 outE 79] ⟨4, 0, 3⟩ codeO hdO .normal hdO) hJm L7 = true := by kernel_rfl
theorem badSO : autoB (turnT (rigP libN tbO rowsB) f fnFx [] [] ⟨4, 0, 3⟩ codeO hdO .ret sRO) .leaf L7 = true := by kernel_rfl
theorem badJO : autoB (turnT (rigP (libJ false) tbO fun K => rowsL [(f, rowI (.exit 2) sNI K)]) f fnFx [] [] ⟨4, 0, 3⟩ codeO hdO .ret sRO) .leaf L7 = true := by kernel_rfl
theorem stopO : autoB (turnT (rigP libN tabF noLoops) f fnFx [] [isU (.xe [(78, 1)]) R] ⟨4, 0, 3⟩ codeO hdO (.exit 0) sNO) .leaf L8 = true := by kernel_rfl
noncomputable def rowM (r : Bool) (x : X) (s1 : St) (K : Know) : Loops := rowL 5 ⟨4, 0, 3⟩ (@thU K [isU (.xi .i64 4) (.int .i64 0), isU R (.bool r)]) hdO x s1
noncomputable def libH (b : Bool) : Know → Oracle := fun _ => rowG 68 [.g fnCells] (mB b)
noncomputable def LM : Lf := Lf.of (fnIv ++ [ivB, ivB])
noncomputable def runM (hb r : Bool) (x : X) (s1 : St) (es : List E) (g : List Bool → V) : Lf → Bool := callT (rigP (libH hb) tabF fun K => rowsL [(f, rowM r x s1 K)]) f fnFx [] es g [.g fnCells]
theorem good0 : autoB (runM false false (.exit 0) sNO [] fun _ => V.s (.xe [(78, 1)])) (.of [⟨false, 78, 1⟩]) LM = true := by kernel_rfl
theorem bad0 : autoB (runM false false .ret sRO [] fun _ => V.s (.bool false)) .leaf LM = true := by kernel_rfl
theorem good1 : autoB (runM true true (.exit 0) sNO [] fun _ => V.s (.xe [(78, 1)])) (.of [⟨false, 78, 1⟩]) (LM.lo 3 1) = true := by kernel_rfl
theorem bad1 : autoB (runM true true .ret sRO [] fun _ => V.s (.bool false)) .leaf (LM.lo 3 1) = true := by kernel_rfl
theorem good2 : autoB (runM true false (.exit 0) sNO [] fun _ => V.s (.xe [(78, 1)])) (.of [⟨false, 78, 1⟩]) (LM.hi 3 0) = true := by kernel_rfl
theorem bad2 : autoB (runM true false .ret sRO [] fun _ => V.s (.bool false)) .leaf (LM.hi 3 0) = true := by kernel_rfl
theorem tagO : tagsOk (F.body.getD .skip) 0 5 = true := by kernel_rfl
theorem tagI : tagsOk codeO 0 8 = true := by kernel_rfl
theorem tagA : tagsOk (FO.body.getD .skip) 0 2 = true := by kernel_rfl
end Go.Proofs.YthdcahkedlijpaaGreat.made
