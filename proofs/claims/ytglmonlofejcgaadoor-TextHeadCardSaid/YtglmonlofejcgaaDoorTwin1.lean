/- Great and Size. fnshape.Calls, as the machine runs it. What fnshape.Calls answers. What a function's checks answer hangs on its core: its data without where its lists lie; and what a change of the core does to the answers. (Plain.) pawnshopref07.Twin: a copy of a function that shares no memory. -/
import Derived.Test.YtglmonlofejcgaaDoorFn26
import Derived.Test.YtglmonlofejcgaaDoorTwinA
import Derived.Test.YtglmonlofejcgaaDoorProg
import Derived.Deep.DeepCutAuto
import Derived.Deep.LoopGhost
namespace Go.Proofs.YtglmonlofejcgaaDoor.great
open Go.RowKit Go.Proofs.YtglmonlofejcgaaDoor.Am
set_option maxRecDepth 100000
set_option linter.unusedVariables false
set_option linter.unusedSectionVars false
noncomputable def f : FuncId := 6
noncomputable def F : Func := Tryd.f6
noncomputable def code : Code := loopAt F 0
noncomputable def keep : List (Nat × S) := [(1, .ptr 0 0), (2, .bool false)]
def hp : Hp := [(0, ⟨fnCells, true⟩)]
noncomputable def hd : St := ⟨frOf F.ntmps (keep ++ [(3, .xi .i64 4)]), ⟨hp, 1⟩⟩
noncomputable def sN : St := ⟨frOf F.ntmps keep, ⟨hp, 1⟩⟩
noncomputable def sR : St := ⟨frOf F.ntmps [(2, .bool true)], ⟨[], 1⟩⟩
def bigE : E := .or (.not (.lt 7 31)) (.not (.lt 17 13))
def bigT : HT := .by 7 31 (.by 17 13 .leaf .leaf) .leaf
noncomputable def L1 : Lf := (Lf.of (fnIv ++ [])).pin 6 1
noncomputable def L0 : Lf := (Lf.of (fnIv ++ [])).pin 6 0
noncomputable def turn (tb : Tabs) (giv : List (E × Bool)) (us : List Upd) (x : X) (s1 : St) : Lf → Bool := turnT (rigP libN tb noLoops) f fnFx giv us ⟨4, 0, 3⟩ code hd x s1
theorem step : autoB (turn (tabF.app tabB) [(bigE, false)] [isU (.xi .i64 4) (.xi .i64 5)] .normal hd) bigT L1 = true := by kernel_rfl
theorem bad : autoB (turn (tabF.app tabB) [(bigE, true)] [] .ret sR) bigT L1 = true := by kernel_rfl
theorem stop : autoB (turn tabF [] [] (.exit 0) sN) .leaf L0 = true := by kernel_rfl
noncomputable def row (x : X) (s1 : St) (K : Know) : Loops := rowL 5 ⟨4, 0, 3⟩ (@thU K [isU (.xi .i64 4) (.int .i64 0)]) hd x s1
def topE : E := .or (.not (.lt 2 31)) (.not (.lt 3 31))
noncomputable def run (rows : Know → List (FuncId × Loops)) (giv : List (E × Bool)) (b : Bool) : Lf → Bool := callT (rigP libN tabF fun K => rowsL (rows K)) f fnFx giv [] (fun _ => V.s (.bool b)) [.g fnCells]
noncomputable def LG : Lf := Lf.of (fnIv ++ [])
def topT : HT := .by 2 31 (.by 3 31 .leaf .leaf) .leaf
theorem run_top : autoB (run (fun _ => []) [(topE, true)] true) topT LG = true := by kernel_rfl
theorem run_bad : autoB (run (fun K => [(f, row .ret sR K)]) [(topE, false)] true) topT LG = true := by kernel_rfl
theorem run_ok : autoB (run (fun K => [(f, row (.exit 0) sN K)]) [(topE, false)] false) topT LG = true := by kernel_rfl
theorem tag : tagsOk (F.body.getD .skip) 0 5 = true := by kernel_rfl
def bigB (b : BlkD) : Bool := !decide ((b.st.length : Int) < 31) || !decide ((b.ops.length : Int) < 13)
def topB (D : FnD) : Bool := !decide ((D.ls.length : Int) < 31) || !decide ((D.bs.length : Int) < 31)
def greatF (D : FnD) : Bool := topB D || D.bs.any bigB
section
variable {w : World} {v : Value} {D : FnD} (h : FnOk' w v D)
include h
theorem blks (hB : D.bs.length ≤ 1000) {b : Bool} (hb : (D.bs.all fun x => !bigB x) = b) (K : Know) (ok : KnowOk K (fnB w D (atB 0) []).rho (fnB w D (atB 0) []).sig) :
    @LoopOk ((fnB w D (atB 0) []).withK K ok) Tryd.prog (row (if b then .exit 0 else .ret) (if b then sN else sR) K) code := by
  have us : ∀ u ∈ [isU (.xi .i64 4) (.int .i64 0)], UpdOk (fnB w D (atB 0) []) (fnB w D (atB 0) []) u := fun u hu => by
    obtain rfl := List.mem_singleton.1 hu
    exact isU_ok fun r v hv => hv
  have hin : ∀ k, k < D.bs.length → L1.Holds (xsAt (fnXs D (atB k) [])) (fun _ => []) := fun k hk => (twos.start0 h (atB k) (fits_B (by omega)) []).pin (i := 6) (c := 1) (show b2i (decide ((k : Int) < D.bs.length)) = 1 from (one_iff _).2 (by omega))
  have rg : ∀ k, k < D.bs.length → RigOk Tryd.prog (rigP libN (tabF.app tabB) noLoops) (fnB w D (atB k) []) := fun k hk => rig_plain (@tabs_app (fnB w D (atB k) []) tabF tabB (tabF_ok h _ _) (tabB_ok h (q := atB k) hk _))
  have gv : ∀ k b, bigB (D.blk k) = b → ∀ p ∈ [(bigE, b)], p.1.num (xsAt (fnXs D (atB k) [])) = p.2 := fun k b e p hp => by
    obtain rfl := List.mem_singleton.1 hp
    exact e
  have hstep : ∀ k, k < D.bs.length → (!bigB (D.blk k)) = true → TurnsS Tryd.prog (fnB w D (atB k) []) (fnB w D (atB (k + 1)) []) code hd .normal hd := fun k hk e => by
    refine turn_fn step (rg k hk) (agree_fn _ _ _ _) (hin k hk) (fnFx_ok D _ _) (gv k false (by rwa [Bool.not_eq_true'] at e)) (fun u hu => ?_) rfl (no_loopN f code)
    obtain rfl := List.mem_singleton.1 hu
    exact isU_ok fun r v hv => hv
  have hend : TurnsS Tryd.prog (fnB w D (atB D.bs.length) []) (fnB w D (atB 0) []) code hd (.exit 0) sN :=
    turn_fn stop (rig_plain (tabF_ok h _ _)) (agree_fn _ _ _ _) (L := L0) ((twos.start0 h (atB D.bs.length) (fits_B (by omega)) []).pin (i := 6) (c := 0) (show b2i (decide ((D.bs.length : Int) < D.bs.length)) = 0 by rw [decide_eq_false (by omega)]; rfl)) (fnFx_ok D _ _) (fun p hp => by cases hp) (fun u hu => by cases hu) rfl (no_loopN f code)
  cases b with
  | true =>
    have hall := (all_at D.bs b0 fun x => !bigB x).2 hb
    exact @roundsU_ok _ _ (fun k => fnB w D (atB k) []) code _ _ hd _ _ (fun e => by cases e) D.bs.length (agree_fn _ _ [] []) us (fun k hk => hstep k hk (hall k hk)) hend 5 K ok
  | false =>
    rcases first_not (fun i => !bigB (D.blk i)) D.bs.length with hall | ⟨N, hN, h0, hn⟩
    · rw [(all_at D.bs b0 fun x => !bigB x).1 hall] at hb
      cases hb
    · exact @roundsU_ok _ _ (fun k => fnB w D (atB k) []) code _ _ hd _ _ (fun e => by cases e) N (agree_fn _ _ [] []) us (fun k hk => hstep k (by omega) (h0 k hk)) (turn_fn bad (rg N hN) (agree_fn _ _ _ _) (hin N hN) (fnFx_ok D _ _) (gv N true (by rwa [Bool.not_eq_false'] at hn)) (fun u hu => by cases hu) rfl (no_loopN f code)) 5 K ok
theorem great_ans : Answers f [v] w (.bool (greatF D)) := by
  have hst := twos.start0 h (atB 0) (fits_B (by omega)) []
  have gv : ∀ b, topB D = b → ∀ p ∈ [(topE, b)], p.1.num (xsAt (fnXs D (atB 0) [])) = p.2 := fun b e p hp => by
    obtain rfl := List.mem_singleton.1 hp
    exact e
  unfold greatF
  cases ht : topB D with
  | true => exact fn_call h run_top (rig_ok lib_none (tabF_ok h _ _) (rows_ok (T := fun _ => []) fun K ok p hp => by cases hp)) hst (fnFx_ok D _ _) (gv true ht) (fun r x hx => hx)
  | false =>
    have hB : D.bs.length ≤ 1000 := by
      unfold topB at ht
      simp only [Bool.or_eq_false_iff, Bool.not_eq_false', decide_eq_true_eq] at ht
      omega
    have rw' : ∀ b, (D.bs.all fun x => !bigB x) = b → RigOk Tryd.prog (rigP libN tabF fun K => rowsL [(f, row (if b then .exit 0 else .ret) (if b then sN else sR) K)]) (fnB w D (atB 0) []) := fun b e => rig_ok lib_none (tabF_ok h _ _) (rows_ok (T := fun K => [(f, row (if b then .exit 0 else .ret) (if b then sN else sR) K)]) fun K ok p hp => by
      obtain rfl := List.mem_singleton.1 hp
      exact ⟨F, Tryd.func6, fun c hc => row_fn tag (blks h hB e K ok) hc⟩)
    have en : D.bs.any bigB = !(D.bs.all fun x => !bigB x) := by rw [List.any_eq_not_all_not]
    rw [Bool.false_or, en]
    cases e : (D.bs.all fun x => !bigB x) with
    | true => exact fn_call h run_ok (rw' true e) hst (fnFx_ok D _ _) (gv false ht) (fun r x hx => hx)
    | false => exact fn_call h run_bad (rw' false e) hst (fnFx_ok D _ _) (gv false ht) (fun r x hx => hx)
end
end Go.Proofs.YtglmonlofejcgaaDoor.great
namespace Go.Proofs.YtglmonlofejcgaaDoor.size
open Go.RowKit Go.Proofs.YtglmonlofejcgaaDoor.Am
set_option maxRecDepth 100000
set_option linter.unusedVariables false
set_option linter.unusedSectionVars false
/-- a function that is right is small -/
theorem of_chk {D : FnD} (h : check.chkF D = 0) : many.manyF D = false ∧ made.madeF D = true ∧ twos.twosF D = true := by
  unfold check.chkF at h
  cases h1 : many.manyF D <;> cases h2 : made.madeF D <;> cases h3 : twos.twosF D <;> simp [h1, h2, h3] at h ⊢
section
variable {w : World} {v : Value} {D : FnD} (h : FnOk' w v D)
include h
end
end Go.Proofs.YtglmonlofejcgaaDoor.size
namespace Go.Proofs.YtglmonlofejcgaaDoor.callsF
open Go.RowKit Go.Proofs.YtglmonlofejcgaaDoor.Am
set_option maxRecDepth 100000
set_option linter.unusedVariables false
set_option linter.unusedSectionVars false
end Go.Proofs.YtglmonlofejcgaaDoor.callsF
namespace Go.Proofs.YtglmonlofejcgaaDoor.callsF
open Go.RowKit Go.Proofs.YtglmonlofejcgaaDoor.Am
set_option maxRecDepth 100000
set_option linter.unusedVariables false
set_option linter.unusedSectionVars false
/-! what it comes to -/
section
variable {w : World} {v : Value} {D : FnD} (h : FnOk' w v D)
include h
end
end Go.Proofs.YtglmonlofejcgaaDoor.callsF
namespace Go.Proofs.YtglmonlofejcgaaDoor.Am
open Go.RowKit
set_option linter.unusedVariables false
set_option linter.unusedSectionVars false
set_option maxRecDepth 100000
def nilV : Value := .slice none 0 0
def BlkD.core (b : BlkD) : BlkD := ⟨nilV, b.pre, nilV, b.post, b.st, b.ops⟩
def FnD.core (D : FnD) : FnD := ⟨D.p, D.u, nilV, nilV, D.ls, D.bs.map BlkD.core, ⟨nilV, []⟩⟩
section
variable (D : FnD)
theorem many_core : many.manyF D.core = many.manyF D := by
  unfold many.manyF FnD.core
  rw [List.length_map, List.all_map]
  rfl
theorem made_core : made.madeF D.core = made.madeF D := by
  unfold made.madeF
  have h1 : head.headF D.core = head.headF D := rfl
  have h2 : D.core.bs.length = D.bs.length := by unfold FnD.core; rw [List.length_map]
  have h3 : D.core.ls = D.ls := rfl
  have h4 : ∀ p : BlkD → Bool, D.core.bs.all p = D.bs.all fun b => p b.core := fun p => by unfold FnD.core; rw [List.all_map]; rfl
  rw [h1, h2, h3, h4, h4]
  rfl
theorem ct_core : twos.Ct.fn D.core = twos.Ct.fn D := by
  unfold twos.Ct.fn FnD.core
  rw [List.foldl_map]
  rfl
theorem twos_core : twos.twosF D.core = twos.twosF D := by
  unfold twos.twosF
  congr 1
  funext t
  unfold twos.goodB
  rw [ct_core]
  rfl
theorem chk_core : check.chkF D.core = check.chkF D := by
  unfold check.chkF
  rw [many_core, made_core, twos_core]
end
/-! one element changed -/
section
variable {α : Type} {p : α → Bool} {f : α → α} {l : List α} {b : Nat}
end
def BlkD.push (x : List Value) (b : BlkD) : BlkD := { b with st := b.st ++ [x] }
section
variable {C : FnD} {b : Nat} {f : BlkD → BlkD}
end
/-! a statement that prints a number -/
section
variable {C : FnD} {b : Nat} (n : Int)
end
/-! each reason alone -/
end Go.Proofs.YtglmonlofejcgaaDoor.Am
namespace Go.Proofs.YtglmonlofejcgaaDoor.twin
open Go.RowKit Go.Proofs.YtglmonlofejcgaaDoor Go.Proofs.YtglmonlofejcgaaDoor.Am
set_option linter.unusedVariables false
set_option linter.unusedSectionVars false
def own2 (b : BlkD) : List Nat := blkOf b.s ++ blkOf b.a
end Go.Proofs.YtglmonlofejcgaaDoor.twin
