/- Great and Size. -/
import Derived.Test.YtbebbbclhgjcbaaFn26
namespace Go.Proofs.Ytbebbbclhgjcbaa.great
open Go.RowKit Go.Proofs.Ytbebbbclhgjcbaa.Am
set_option maxRecDepth 100000
set_option linter.unusedVariables false
set_option linter.unusedSectionVars false
noncomputable def f : FuncId := 18
noncomputable def F : Func := Try.f18
noncomputable def code : Code := loopAt F 0
noncomputable def keep : List (Nat × S) := [(1, .ptr 0 0), (2, .bool false)]
def hp : Hp := [(0, ⟨fnCells, true⟩)]
noncomputable def hd : St := ⟨frOf F.ntmps (keep ++ [(3, .xi .i64 4)]), ⟨hp, 1⟩⟩
noncomputable def sN : St := ⟨frOf F.ntmps keep, ⟨hp, 1⟩⟩
noncomputable def sR : St := ⟨frOf F.ntmps [(2, .bool true)], ⟨[], 1⟩⟩
def bigE : E := .or (.not (.lt 7 31)) (.not (.lt 17 13))
def bigT : HT := .by 7 31 (.by 17 13 .leaf .leaf) .leaf
noncomputable def L1 : Lf := (Lf.of (fnIv ++ [])).pin 6 1
noncomputable def L0 : Lf := (Lf.of (fnIv ++ [])).pin 6 0
noncomputable def turn (tb : Tabs) (giv : List (E × Bool)) (us : List Upd) (x : X) (s1 : St) : Lf → Bool := turnT (rigP libN tb noLoops) f fnFx giv us ⟨4, 0, 3⟩ code hd x s1
theorem step : autoB (turn (tabF.app tabB) [(bigE, false)] [isU (.xi .i64 4) (.xi .i64 5)] .normal hd) bigT L1 = true := by kernel_rfl
theorem bad : autoB (turn (tabF.app tabB) [(bigE, true)] [] .ret sR) bigT L1 = true := by kernel_rfl
theorem stop : autoB (turn tabF [] [] (.exit 0) sN) .leaf L0 = true := by kernel_rfl
noncomputable def row (x : X) (s1 : St) (K : Know) : Loops := rowL 5 ⟨4, 0, 3⟩ (@thU K [isU (.xi .i64 4) (.int .i64 0)]) hd x s1
def topE : E := .or (.not (.lt 2 31)) (.not (.lt 3 31))
noncomputable def run (rows : Know → List (FuncId × Loops)) (giv : List (E × Bool)) (b : Bool) : Lf → Bool := callT (rigP libN tabF fun K => rowsL (rows K)) f fnFx giv [] (fun _ => V.s (.bool b)) [.g fnCells]
noncomputable def LG : Lf := Lf.of (fnIv ++ [])
def topT : HT := .by 2 31 (.by 3 31 .leaf .leaf) .leaf
theorem run_top : autoB (run (fun _ => []) [(topE, true)] true) topT LG = true := by kernel_rfl
theorem run_bad : autoB (run (fun K => [(f, row .ret sR K)]) [(topE, false)] true) topT LG = true := by kernel_rfl
theorem run_ok : autoB (run (fun K => [(f, row (.exit 0) sN K)]) [(topE, false)] false) topT LG = true := by kernel_rfl
theorem tag : tagsOk (F.body.getD .skip) 0 5 = true := by kernel_rfl
def bigB (b : BlkD) : Bool := !decide ((b.st.length : Int) < 31) || !decide ((b.ops.length : Int) < 13)
def topB (D : FnD) : Bool := !decide ((D.ls.length : Int) < 31) || !decide ((D.bs.length : Int) < 31)
def greatF (D : FnD) : Bool := topB D || D.bs.any bigB
section
variable {w : World} {v : Value} {D : FnD} (h : FnOk' w v D)
include h
theorem blks (hB : D.bs.length ≤ 1000) {b : Bool} (hb : (D.bs.all fun x => !bigB x) = b) (K : Know) (ok : KnowOk K (fnB w D (atB 0) []).rho (fnB w D (atB 0) []).sig) :
    @LoopOk ((fnB w D (atB 0) []).withK K ok) Try.prog (row (if b then .exit 0 else .ret) (if b then sN else sR) K) code := by
  have us : ∀ u ∈ [isU (.xi .i64 4) (.int .i64 0)], UpdOk (fnB w D (atB 0) []) (fnB w D (atB 0) []) u := fun u hu => by
    obtain rfl := List.mem_singleton.1 hu
    exact isU_ok fun r v hv => hv
  have hin : ∀ k, k < D.bs.length → L1.Holds (xsAt (fnXs D (atB k) [])) (fun _ => []) := fun k hk => (twos.start0 h (atB k) (fits_B (by omega)) []).pin (i := 6) (c := 1) (show b2i (decide ((k : Int) < D.bs.length)) = 1 from (one_iff _).2 (by omega))
  have rg : ∀ k, k < D.bs.length → RigOk Try.prog (rigP libN (tabF.app tabB) noLoops) (fnB w D (atB k) []) := fun k hk => rig_plain (@tabs_app (fnB w D (atB k) []) tabF tabB (tabF_ok h _ _) (tabB_ok h (q := atB k) hk _))
  have gv : ∀ k b, bigB (D.blk k) = b → ∀ p ∈ [(bigE, b)], p.1.num (xsAt (fnXs D (atB k) [])) = p.2 := fun k b e p hp => by
    obtain rfl := List.mem_singleton.1 hp
    exact e
  have hstep : ∀ k, k < D.bs.length → (!bigB (D.blk k)) = true → TurnsS Try.prog (fnB w D (atB k) []) (fnB w D (atB (k + 1)) []) code hd .normal hd := fun k hk e => by
    refine turn_fn step (rg k hk) (agree_fn _ _ _ _) (hin k hk) (fnFx_ok D _ _) (gv k false (by rwa [Bool.not_eq_true'] at e)) (fun u hu => ?_) rfl (no_loopN f code)
    obtain rfl := List.mem_singleton.1 hu
    exact isU_ok fun r v hv => hv
  have hend : TurnsS Try.prog (fnB w D (atB D.bs.length) []) (fnB w D (atB 0) []) code hd (.exit 0) sN :=
    turn_fn stop (rig_plain (tabF_ok h _ _)) (agree_fn _ _ _ _) (L := L0) ((twos.start0 h (atB D.bs.length) (fits_B (by omega)) []).pin (i := 6) (c := 0) (show b2i (decide ((D.bs.length : Int) < D.bs.length)) = 0 by rw [decide_eq_false (by omega)]; rfl)) (fnFx_ok D _ _) (fun p hp => by cases hp) (fun u hu => by cases hu) rfl (no_loopN f code)
  cases b with
  | true =>
    have hall := (all_at D.bs b0 fun x => !bigB x).2 hb
    exact @roundsU_ok _ _ (fun k => fnB w D (atB k) []) code _ _ hd _ _ (fun e => by cases e) D.bs.length (agree_fn _ _ [] []) us (fun k hk => hstep k hk (hall k hk)) hend 5 K ok
  | false =>
    rcases first_not (fun i => !bigB (D.blk i)) D.bs.length with hall | ⟨N, hN, h0, hn⟩
    · rw [(all_at D.bs b0 fun x => !bigB x).1 hall] at hb
      cases hb
    · exact @roundsU_ok _ _ (fun k => fnB w D (atB k) []) code _ _ hd _ _ (fun e => by cases e) N (agree_fn _ _ [] []) us (fun k hk => hstep k (by omega) (h0 k hk)) (turn_fn bad (rg N hN) (agree_fn _ _ _ _) (hin N hN) (fnFx_ok D _ _) (gv N true (by rwa [Bool.not_eq_false'] at hn)) (fun u hu => by cases hu) rfl (no_loopN f code)) 5 K ok
theorem great_ans : Answers f [v] w (.bool (greatF D)) := by
  have hst := twos.start0 h (atB 0) (fits_B (by omega)) []
  have gv : ∀ b, topB D = b → ∀ p ∈ [(topE, b)], p.1.num (xsAt (fnXs D (atB 0) [])) = p.2 := fun b e p hp => by
    obtain rfl := List.mem_singleton.1 hp
    exact e
  unfold greatF
  cases ht : topB D with
  | true => exact fn_call h run_top (rig_ok lib_none (tabF_ok h _ _) (rows_ok (T := fun _ => []) fun K ok p hp => by cases hp)) hst (fnFx_ok D _ _) (gv true ht) (fun r x hx => hx)
  | false =>
    have hB : D.bs.length ≤ 1000 := by
      unfold topB at ht
      simp only [Bool.or_eq_false_iff, Bool.not_eq_false', decide_eq_true_eq] at ht
      omega
    have rw' : ∀ b, (D.bs.all fun x => !bigB x) = b → RigOk Try.prog (rigP libN tabF fun K => rowsL [(f, row (if b then .exit 0 else .ret) (if b then sN else sR) K)]) (fnB w D (atB 0) []) := fun b e => rig_ok lib_none (tabF_ok h _ _) (rows_ok (T := fun K => [(f, row (if b then .exit 0 else .ret) (if b then sN else sR) K)]) fun K ok p hp => by
      obtain rfl := List.mem_singleton.1 hp
      exact ⟨F, Try.func18, fun c hc => row_fn tag (blks h hB e K ok) hc⟩)
    have en : D.bs.any bigB = !(D.bs.all fun x => !bigB x) := by rw [List.any_eq_not_all_not]
    rw [Bool.false_or, en]
    cases e : (D.bs.all fun x => !bigB x) with
    | true => exact fn_call h run_ok (rw' true e) hst (fnFx_ok D _ _) (gv false ht) (fun r x hx => hx)
    | false => exact fn_call h run_bad (rw' false e) hst (fnFx_ok D _ _) (gv false ht) (fun r x hx => hx)
end
end Go.Proofs.Ytbebbbclhgjcbaa.great
namespace Go.Proofs.Ytbebbbclhgjcbaa.size
open Go.RowKit Go.Proofs.Ytbebbbclhgjcbaa.Am
set_option maxRecDepth 100000
set_option linter.unusedVariables false
set_option linter.unusedSectionVars false
noncomputable def f : FuncId := 10
noncomputable def F : Func := Try.f10
noncomputable def code : Code := loopAt F 0
def xi (n : Nat) : S := .xi .i64 n
noncomputable def keep (n : Nat) : List (Nat × S) := [(1, .ptr 0 0), (5, xi n), (17, .rv 1), (18, xi 3)]
def hp : Hp := [(0, ⟨fnCells, true⟩)]
noncomputable def hd : St := ⟨frOf F.ntmps (keep 77 ++ [(19, xi 4)]), ⟨hp, 1⟩⟩
noncomputable def sN : St := ⟨frOf F.ntmps (keep 79), ⟨hp, 1⟩⟩
noncomputable def L1 : Lf := (Lf.of (fnIv ++ [])).pin 6 1
noncomputable def L0 : Lf := (Lf.of (fnIv ++ [])).pin 6 0
def fx : Fx := ⟨[], { fnFx.xt with sm := [(77, 7, 78)] }⟩
theorem step : autoB (turnT (rigP libN (tabF.app tabB) noLoops) f fx [] [isU (xi 4) (xi 5), isU (xi 77) (xi 78)] ⟨4, 0, 3⟩ code hd .normal hd) .leaf L1 = true := by kernel_rfl
theorem stop : autoB (turnT (rigP libN tabF noLoops) f fnFx [] [isU (xi 79) (xi 77)] ⟨4, 0, 3⟩ code hd (.exit 0) sN) .leaf L0 = true := by kernel_rfl
noncomputable def row (K : Know) : Loops := rowL 7 ⟨4, 0, 3⟩ (@thU K [isU (xi 4) (.int .i64 0), isU (xi 77) (xi 3)]) hd (.exit 0) sN
noncomputable def lib : Know → Oracle := fun _ => rowG check.f [.g fnCells] (V.s (.int .i64 0))
noncomputable def LG : Lf := Lf.of (fnIv ++ [])
theorem run_ok : autoB (callT (rigP lib tabF fun K => rowsL [(f, row K)]) f fnFx [] [] (fun _ => .t [.s (xi 79), .s (.int .i64 0)]) [.g fnCells]) .leaf LG = true := by kernel_rfl
theorem tag : tagsOk (F.body.getD .skip) 0 7 = true := by kernel_rfl
def sizeK (D : FnD) (i : Nat) : Int := D.bs.length + acc (fun b : BlkD => (b.st.length : Int)) (D.bs.take i)
def sizeF (D : FnD) : Int := D.bs.length + acc (fun b : BlkD => (b.st.length : Int)) D.bs
def mk (D : FnD) (i : Nat) : List Int := [sizeK D i, sizeK D i + (D.blk i).st.length]
def mF (D : FnD) : List Int := [0, 0, sizeF D]
/-- a function that is right is small -/
theorem of_chk {D : FnD} (h : check.chkF D = 0) : many.manyF D = false ∧ made.madeF D = true ∧ twos.twosF D = true := by
  unfold check.chkF at h
  cases h1 : many.manyF D <;> cases h2 : made.madeF D <;> cases h3 : twos.twosF D <;> simp [h1, h2, h3] at h ⊢
section
variable {w : World} {v : Value} {D : FnD} (h : FnOk' w v D)
include h
theorem sm (hc : check.chkF D = 0) : twos.Sm D := by
  obtain ⟨h1, h2, _⟩ := of_chk hc
  exact check.sm_of h h1 h2
theorem size_b (hs : twos.Sm D) (i : Nat) : 0 ≤ sizeK D i ∧ sizeK D i ≤ 1000 := by
  have := acc_le (fun b : BlkD => (b.st.length : Int)) 24 (D.bs.take i) fun b hb => by
    have := (hs.s b (List.mem_of_mem_take hb)).1
    omega
  have hl : (D.bs.take i).length ≤ 24 := by rw [List.length_take]; have := hs.b; omega
  have hb := hs.b
  unfold sizeK
  omega
theorem loop (hs : twos.Sm D) (K : Know) (ok : KnowOk K (fnB w D (atB 0) (mF D)).rho (fnB w D (atB 0) (mF D)).sig) : @LoopOk ((fnB w D (atB 0) (mF D)).withK K ok) Try.prog (row K) code := by
  have hn := hs.b
  have n77 : ∀ i, (fnB w D (atB i) (mk D i)).rho 77 = sizeK D i := fun i => fn_more (D := D) (q := atB i) 0
  have n78 : ∀ i, (fnB w D (atB i) (mk D i)).rho 78 = sizeK D i + (D.blk i).st.length := fun i => fn_more (D := D) (q := atB i) 1
  have o79 : (fnB w D (atB 0) (mF D)).rho 79 = sizeF D := fn_more (D := D) (q := atB 0) 2
  refine @roundsU_ok _ _ (fun i => fnB w D (atB i) (mk D i)) code _ _ hd _ _ (fun e => by cases e) D.bs.length (agree_fn _ _ _ _) (fun u hu => ?_) (fun i hi => ?_) ?_ 7 K ok
  · simp only [List.mem_cons, List.not_mem_nil, or_false] at hu
    rcases hu with rfl | rfl
    · exact isU_ok fun r v hv => hv
    · refine onceR.xi_is ((show (fnB w D (atB 0) (mF D)).rho 3 = (D.bs.length : Int) from rfl).trans ((n77 0).trans ?_).symm)
      show (D.bs.length : Int) + 0 = _
      omega
  · have sn : sizeK D (i + 1) = sizeK D i + (D.blk i).st.length := by
      unfold sizeK
      rw [acc_take _ _ b0 hi]
      show _ + (_ + ((D.blk i).st.length : Int)) = _
      omega
    have hb := size_b h hs (i + 1)
    refine turn_fn step (rig_plain (@tabs_app (fnB w D (atB i) (mk D i)) tabF tabB (tabF_ok h _ _) (tabB_ok h (q := atB i) hi _))) (agree_fn _ _ _ _) ((twos.start0 h (atB i) (fits_B (by omega)) _).pin (i := 6) (c := 1) (show b2i (decide ((i : Int) < D.bs.length)) = 1 from (one_iff _).2 (by omega))) ?_ (fun p hp => by cases hp) (fun u hu => ?_) rfl (no_loopN f code)
    · have h0 := fnFx_ok D (atB i) (mk D i)
      refine ⟨fun a c b hm => (by cases hm), ⟨h0.xt.lf, fun a b c hm => ?_, h0.xt.ld, h0.xt.sr, h0.xt.eq⟩⟩
      obtain e := List.mem_singleton.1 (show (a, b, c) ∈ [(77, 7, 78)] from hm)
      cases e
      rw [show xsAt (fnXs D (atB i) (mk D i)) 77 = _ from n77 i, show xsAt (fnXs D (atB i) (mk D i)) 78 = _ from n78 i]
      exact ⟨rfl, by show (-9223372036854775808 : Int) ≤ _; omega, by show _ ≤ (9223372036854775807 : Int); omega⟩
    · simp only [List.mem_cons, List.not_mem_nil, or_false] at hu
      rcases hu with rfl | rfl
      · exact isU_ok fun r v hv => hv
      · exact onceR.xi_is ((n78 i).trans (sn.symm.trans (n77 (i + 1)).symm))
  · refine turn_fn stop (rig_plain (tabF_ok h _ _)) (agree_fn _ _ _ _) (L := L0) ((twos.start0 h (atB D.bs.length) (fits_B (by omega)) _).pin (i := 6) (c := 0) (show b2i (decide ((D.bs.length : Int) < D.bs.length)) = 0 by rw [decide_eq_false (by omega)]; rfl)) (fnFx_ok D _ _) (fun p hp => by cases hp) (fun u hu => ?_) rfl (no_loopN f code)
    obtain rfl := List.mem_singleton.1 hu
    exact onceR.xi_is ((n77 _).trans ((show sizeK D D.bs.length = sizeF D by unfold sizeK sizeF; rw [List.take_length]).trans o79.symm))
end
end Go.Proofs.Ytbebbbclhgjcbaa.size
