/- once answers; the reference's Check, as the machine runs it. What the reference's Check answers. -/
import Derived.Test.YtglmonlofejcgaaDoorFn23
namespace Go.Proofs.YtglmonlofejcgaaDoor.onceR
open Go.RowKit Go.Proofs.YtglmonlofejcgaaDoor.Am
set_option maxRecDepth 100000
set_option linter.unusedVariables false
set_option linter.unusedSectionVars false
open twos (Ct)
section
variable {w : World} {v : Value} {D : FnD} (h : FnOk' w v D)
include h
theorem outer (hs : twos.Sm D) (hok : ∀ b ∈ D.bs, made.okB b = true) {t : Nat} (ht : t < 16) : ∀ K (ok : KnowOk K (fnB w D (atB 0) (mF D t)).rho (fnB w D (atB 0) (mF D t)).sig), @LoopOk ((fnB w D (atB 0) (mF D t)).withK K ok) Tryd.prog (rowO t K) codeO := by
 intro K ok
 have hn := hs.b
 have okb : ∀ i, i < D.bs.length → ((D.blk i).st.all fun st => okStE.val st) = true ∧ okJF (D.blk i) = true := fun i hi => by
  have := hok _ (twos.blk_mem hi)
  unfold made.okB at this
  rwa [Bool.and_eq_true] at this
 have hfP : fP ≠ f := by decide
 have inat : ∀ i, i < D.bs.length → (Ct.at D i).In 24000 := fun i hi => twos.In.more (twos.In.at hs (by omega)) (by omega)
 have jf := fun i (hi : i < D.bs.length) => jm_facts (jump_is h hi) (okb i hi).2
 have jmr := fun i (hi : i < D.bs.length) => jm_more (jump_is h hi) (okb i hi).2
 have opsok : ∀ i, i < D.bs.length → ((D.blk i).ops.all fun el => (okOpE 0).val el) = true := fun i hi => by
  rcases (jf i hi).2.2 with e | e
  ·exact e
  ·rw [List.eq_nil_of_length_eq_zero e]; rfl
 have sml : ∀ i, i < D.bs.length → (D.blk i).st.length ≤ 24 ∧ (D.blk i).ops.length ≤ 8 := fun i hi => hs.s _ (twos.blk_mem hi)
 have rI : ∀ i (hi : i < D.bs.length) K (ok : KnowOk K (fnB w D (atB i) (mO D t i)).rho (fnB w D (atB i) (mO D t i)).sig), @LoopOk ((fnB w D (atB i) (mO D t i)).withK K ok) Tryd.prog (rowI t K) codeI := fun i hi =>
  inner h ht hi (by omega) (by have := (sml i hi).1; omega) (okb i hi).1 (inat i hi)
 have rA : ∀ i (hi : i < D.bs.length) K (ok : KnowOk K (fnB w D (atB i) (mO D t i)).rho (fnB w D (atB i) (mO D t i)).sig), @LoopOk ((fnB w D (atB i) (mO D t i)).withK K ok) Tryd.prog (rowA t K) codeA := fun i hi =>
  args h ht hi (by omega) (by have := (sml i hi).2; omega) (opsok i hi)
 have n93 : ∀ i, (fnB w D (atB i) (mO D t i)).rho 93 = (Ct.at D i).s t := fun i => at93 0
 have n94 : ∀ i, (fnB w D (atB i) (mO D t i)).rho 94 = (Ct.at D i).p t := fun i => at93 1
 have n95 : ∀ i, (fnB w D (atB i) (mO D t i)).rho 95 = (Ct.at D i).a t := fun i => at93 2
 have n96 : ∀ i, (fnB w D (atB i) (mO D t i)).rho 96 = ((Ct.at D i).stm (D.blk i).st).s t := fun i => at93 3
 have n97 : ∀ i, (fnB w D (atB i) (mO D t i)).rho 97 = ((Ct.at D i).stm (D.blk i).st).p t := fun i => at93 4
 have n98 : ∀ i, (fnB w D (atB i) (mO D t i)).rho 98 = ((Ct.at D i).stm (D.blk i).st).a t := fun i => at93 5
 have n99 : ∀ i, (fnB w D (atB i) (mO D t i)).rho 99 = ((Ct.at D i).stm (D.blk i).st).a t + occJump.occJ (D.blk i) t := fun i => at93 6
 have n100 : ∀ i, (fnB w D (atB i) (mO D t i)).rho 100 = ((Ct.at D i).stm (D.blk i).st).p t + aP (D.blk i) t := fun i => at93 7
 have n101 : ∀ i, (fnB w D (atB i) (mO D t i)).rho 101 = aP (D.blk i) t := fun i => at93 8
 refine @roundsU_ok _ _ (fun i => fnB w D (atB i) (mO D t i)) codeO _ _ (hdO t) _ _ (fun e => by cases e) D.bs.length (agree_fn _ _ _ _) (fun u hu => ?_) (fun i hi => ?_) ?_ 6 K ok
 ·simp only [List.mem_cons, List.not_mem_nil, or_false] at hu
  rcases hu with rfl | rfl | rfl | rfl
  ·exact isU_ok fun r v hv => hv
  ·exact xi_zero (n93 0)
  ·exact xi_zero (n94 0)
  ·exact xi_zero (n95 0)
 ·have hO : ∀ K (ok : KnowOk K (fnB w D (atB i) (mO D t i)).rho (fnB w D (atB i) (mO D t i)).sig), @Sound ((fnB w D (atB i) (mO D t i)).withK K ok) Tryd.prog rOJ :=
   rowO_ok h ⟨_, Tryd.func43, by kernel_rfl, by kernel_rfl⟩ (occJump.jmp_VA h (atB i) rfl _ hi) (by rfl) fun w' hw => occJump.occJ_ans hw hi (by omega) (okb i hi).2
  have sl := sml i hi
  have bj := block.occJ_in (D.blk i) (by omega) t
  have hstm := twos.In.stm (inat i hi) (D.blk i).st
  have ba := hstm.a t
  have bp := hstm.p t
  have bP : 0 ≤ aP (D.blk i) t ∧ aP (D.blk i) t ≤ 1000 := by
   have := acc_le (fun op => twos.opPass op t) 1 (D.blk i).ops fun x _ => b2i_le _
   unfold aP
   omega
  refine turn_fn (List.all_eq_true.1 stepO_ok t (List.mem_range.2 ht)) (rig_ok hO (@tabs_app (fnB w D (atB i) (mO D t i)) _ _ (tabF_ok h _ _) (tabB_ok h (q := atB i) hi _)) (rows_ok (T := fun K => [(f, rowI t K), (fP, rowA t K)]) fun K ok p hp => ?_)) (agree_fn _ _ _ _) (L := LO) ?_ ?_ (fun p hp => by cases hp) (fun u hu => ?_) rfl (fun K ok => code_rows (F := F) (cc := codeO) fun p hp e => ?_)
  ·simp only [List.mem_cons, List.not_mem_nil, or_false] at hp
   rcases hp with rfl | rfl
   ·exact ⟨F, Tryd.func22, fun c hc => row_fn tagI2 (rI i hi K ok) hc⟩
   ·exact ⟨FP, Tryd.func41, fun c hc => row_fn tagA (rA i hi K ok) hc⟩
  ·exact (twos.start0 h (atB i) (fits_B (by omega)) _).pin (i := 6) (c := 1) (show b2i (decide ((i : Int) < D.bs.length)) = 1 from (one_iff _).2 (by omega))
  ·have h0 := fnFx_ok D (atB i) (mO D t i)
   refine ⟨fun a c b hm => (by cases hm), ⟨h0.xt.lf, fun a b c hm => ?_, h0.xt.ld, h0.xt.sr, h0.xt.eq⟩⟩
   have hm : (a, b, c) ∈ [(98, nm 0 t, 99), (97, 101, 100)] := hm
   simp only [List.mem_cons, List.not_mem_nil, or_false, Prod.mk.injEq] at hm
   rcases hm with ⟨rfl, rfl, rfl⟩ | ⟨rfl, rfl, rfl⟩
   ·rw [show xsAt (fnXs D (atB i) (mO D t i)) 98 = _ from n98 i, show xsAt (fnXs D (atB i) (mO D t i)) 99 = _ from n99 i, show xsAt (fnXs D (atB i) (mO D t i)) (nm 0 t) = _ from at77 ht]
    exact ⟨rfl, by show (-9223372036854775808 : Int) ≤ _; omega, by show _ ≤ (9223372036854775807 : Int); omega⟩
   ·rw [show xsAt (fnXs D (atB i) (mO D t i)) 97 = _ from n97 i, show xsAt (fnXs D (atB i) (mO D t i)) 100 = _ from n100 i, show xsAt (fnXs D (atB i) (mO D t i)) 101 = _ from n101 i]
    exact ⟨rfl, by show (-9223372036854775808 : Int) ≤ _; omega, by show _ ≤ (9223372036854775807 : Int); omega⟩
  ·obtain ⟨ja, jp, js⟩ := jmp_adds h (D.blk i) ((Ct.at D i).stm (D.blk i).st) t (jmr i hi).2.2
   have hsucc : Ct.at D (i + 1) = ((Ct.at D i).stm (D.blk i).st).jmp (D.blk i) := twos.at_succ hi
   simp only [usO, List.mem_cons, List.not_mem_nil, or_false] at hu
   rcases hu with rfl | rfl | rfl | rfl
   ·exact isU_ok fun r v hv => hv
   ·exact xi_is ((n96 i).trans (by rw [n93 (i + 1), hsucc, js]))
   ·refine pick_ok ?_
    have e8 : (fnB w D (atB i) (mO D t i)).rho 8 = cellI (D.blk i).pre 0 := rfl
    have eN : (isE 8 4).num (fnB w D (atB i) (mO D t i)).rho = decide (cellI (D.blk i).pre 0 = 4) := by
     show (decide (_ = (4 : Int)) && true) = _
     rw [e8, Bool.and_true]
    rw [eN, n94 (i + 1), hsucc, jp, n100 i, n97 i]
   ·exact xi_is ((n99 i).trans (by rw [n95 (i + 1), hsucc, ja]))
  ·simp only [List.mem_cons, List.not_mem_nil, or_false] at hp
   rcases hp with rfl | rfl
   ·exact row_code tagI (rI i hi K ok)
   ·exact absurd e hfP
 ·have e : Ct.at D D.bs.length = Ct.fn D := by unfold Ct.at Ct.fn; rw [List.take_length]
  have f93 : (fnB w D (atB 0) (mF D t)).rho 93 = (Ct.fn D).s t := at93 0
  have f94 : (fnB w D (atB 0) (mF D t)).rho 94 = (Ct.fn D).p t := at93 1
  have f95 : (fnB w D (atB 0) (mF D t)).rho 95 = (Ct.fn D).a t := at93 2
  refine turn_fn (List.all_eq_true.1 stopO_ok t (List.mem_range.2 ht)) (rig_plain (tabF_ok h _ _)) (agree_fn _ _ _ _) (L := LO0) ?_ (fnFx_ok D _ _) (fun p hp => by cases hp) (fun u hu => ?_) rfl (no_loopN f codeO)
  ·exact (twos.start0 h (atB D.bs.length) (fits_B (by omega)) _).pin (i := 6) (c := 0) (show b2i (decide ((D.bs.length : Int) < D.bs.length)) = 0 by rw [decide_eq_false (by omega)]; rfl)
  ·simp only [List.mem_cons, List.not_mem_nil, or_false] at hu
   rcases hu with rfl | rfl | rfl
   ·exact xi_is ((n93 _).trans (by rw [e, f93]))
   ·exact xi_is ((n94 _).trans (by rw [e, f94]))
   ·exact xi_is ((n95 _).trans (by rw [e, f95]))
theorem start_F (hs : twos.Sm D) (t : Nat) : LF.Holds (xsAt (fnXs D (atB 0) (mF D t))) (fun _ => []) := by
 have hc := twos.fn_in h hs
 have a := hc.a t
 have p := hc.p t
 have s := hc.s t
 have : All2 InI (List.replicate 16 twos.iv64 ++ List.replicate 3 twos.iv64) (mF D t) :=
  all2_cat (a := List.replicate 16 twos.iv64) (b := rows16 [fun _ => 0]) (all2_cat (a := List.replicate 16 twos.iv64) (c := []) (twos.in_row16 fun j => ⟨by decide, by decide⟩) trivial)
   ⟨by show (-9223372036854775808 : Int) ≤ _ ∧ _ ≤ (9223372036854775807 : Int); omega, by show (-9223372036854775808 : Int) ≤ _ ∧ _ ≤ (9223372036854775807 : Int); omega, by show (-9223372036854775808 : Int) ≤ _ ∧ _ ≤ (9223372036854775807 : Int); omega, trivial⟩
 have := fn_start h (q := atB 0) (fits_B (by omega)) this (m2 := []) (fun _ => [])
 rwa [List.append_nil] at this
theorem once_ans (hs : twos.Sm D) (hok : ∀ b ∈ D.bs, made.okB b = true) {t : Nat} (ht : t < 16) : Answers f [v, .int .i64 t] w (.bool (onceF D t)) := by
 have hva : All2 (@VA (fnB w D (atB 0) (mF D t)) r0) [.g fnCells, .s (lit t)] [v, .int .i64 t] := ⟨fn_val h (atB 0) _ r0, rfl, trivial⟩
 unfold onceF
 by_cases hp : D.p < t
 ·rw [decide_eq_true hp, Bool.true_and]
  have hR : RigOk Tryd.prog (rigP libN tabF fun K => rowsL [(f, rowO t K)]) (fnB w D (atB 0) (mF D t)) := rig_ok lib_none (tabF_ok h _ _) (rows_ok (T := fun K => [(f, rowO t K)]) fun K ok p hp => by
   obtain rfl := List.mem_singleton.1 hp
   exact ⟨F, Tryd.func22, fun c hc => row_fn tagO (outer h hs hok ht K ok) hc⟩)
  have := calls_auto (b := fnB w D (atB 0) (mF D t)) (w := w) (Nat.le_refl _) (fun _ _ => rfl) hR ((start_F h hs t).hi (i := 0) (c := (t : Int) - 1) (show D.p ≤ (t : Int) - 1 by omega)) (fnFx_ok D _ _) (fun p hp => by cases hp) hva (List.all_eq_true.1 runY_ok t (List.mem_range.2 ht))
  have e : onceE.num (fnB w D (atB 0) (mF D t)).rho = (decide ((Ct.fn D).s t = 1) && (decide ((Ct.fn D).p t = 1) && decide ((Ct.fn D).a t = 2))) := by
   have f93 : (fnB w D (atB 0) (mF D t)).rho 93 = (Ct.fn D).s t := at93 0
   have f94 : (fnB w D (atB 0) (mF D t)).rho 94 = (Ct.fn D).p t := at93 1
   have f95 : (fnB w D (atB 0) (mF D t)).rho 95 = (Ct.fn D).a t := at93 2
   show ((decide (_ = (1 : Int)) && true) && ((decide (_ = (1 : Int)) && true) && (decide (_ = (2 : Int)) && true))) = _
   rw [f93, f94, f95, Bool.and_true, Bool.and_true, Bool.and_true]
  refine Answers.of (b := fnB w D (atB 0) (mF D t)) (v := V.s (.bool (onceE.num (fnB w D (atB 0) (mF D t)).rho))) (fun r x hx => ?_) this
  rw [e] at hx
  exact hx
 ·rw [decide_eq_false hp, Bool.false_and]
  have := calls_auto (b := fnB w D (atB 0) (mF D t)) (w := w) (Nat.le_refl _) (fun _ _ => rfl) (rig_plain (tabF_ok h (atB 0) (mF D t))) ((start_F h hs t).lo (i := 0) (c := (t : Int)) (show (t : Int) ≤ D.p by omega)) (fnFx_ok D _ _) (fun p hp => by cases hp) hva (List.all_eq_true.1 runN_ok t (List.mem_range.2 ht))
  exact Answers.of (b := fnB w D (atB 0) (mF D t)) (v := V.s (.bool false)) (fun r x hx => hx) this
end
end Go.Proofs.YtglmonlofejcgaaDoor.onceR
namespace Go.Proofs.YtglmonlofejcgaaDoor.refC
open Go.RowKit Go.Proofs.YtglmonlofejcgaaDoor.Am
set_option maxRecDepth 100000
set_option linter.unusedVariables false
set_option linter.unusedSectionVars false
noncomputable def f : FuncId := 7
noncomputable def F : Func := Tryd.f7
noncomputable def codeT : Code := loopAt F 0
noncomputable def fr3 : List (Nat × S) := [(1, .ptr 0 0), (2, .int .i64 0), (3, .ptr 1 0)]
def hp : Hp := [(1, ⟨bits16 0, true⟩), (0, ⟨fnCells, true⟩)]
noncomputable def hdT (t : Nat) : St := ⟨frOf F.ntmps (fr3 ++ [(4, .int .i64 t)]), ⟨hp, 2⟩⟩
noncomputable def sN : St := ⟨frOf F.ntmps fr3, ⟨hp, 2⟩⟩
noncomputable def sR : St := ⟨frOf F.ntmps [(2, .int .i64 12)], ⟨[], 2⟩⟩
noncomputable def rOn (t : Nat) (b : Bool) : Oracle := rowG onceR.f [.g fnCells, .s (.int .i64 t)] (mB b)
noncomputable def LT : Lf := Lf.of (fnIv ++ List.replicate 16 ivB)
noncomputable def testT (lib : Oracle) (giv : List (E × Bool)) (hd : St) (x : X) (s1 : St) (hs : HT) : Bool := autoB (turnT (rigP (fun _ => lib) tabF noLoops) f fnFx giv [] ⟨93, 0, 3⟩ codeT hd x s1) hs LT
noncomputable def goodX (t : Nat) : Bool := testT (rOn t true) [] (hdT t) .normal (hdT (t + 1)) (.by (nm 0 t) 1 .leaf .leaf)
noncomputable def skipX (t : Nat) : Bool := testT (rOn t false) [(isE (nm 0 t) 1, false)] (hdT t) .normal (hdT (t + 1)) (.by (nm 0 t) 1 .leaf .leaf)
noncomputable def badX (t : Nat) : Bool := testT (rOn t false) [(isE (nm 0 t) 1, true)] (hdT t) .ret sR (.by (nm 0 t) 1 .leaf .leaf)
theorem goodT : ((List.range 16).all goodX) = true := by kernel_rfl
theorem skipT : ((List.range 16).all skipX) = true := by kernel_rfl
theorem badT : ((List.range 16).all badX) = true := by kernel_rfl
theorem stopT : autoB (turnT (rigP libN tabF noLoops) f fnFx [] [] ⟨93, 0, 3⟩ codeT (hdT 16) (.exit 0) sN) .leaf LT = true := by kernel_rfl
noncomputable def rowT (x : X) (s1 : St) (K : Know) : Loops := rowL 8 ⟨93, 0, 3⟩ (@thU K []) (hdT 0) x s1
noncomputable def lib (l : List (FuncId × V)) : Know → Oracle := fun _ => orcs (l.map fun p => rowG p.1 [.g fnCells] p.2)
noncomputable def rL (b : Bool) : FuncId × V := (many.fB, V.s (.bool b))
noncomputable def rM (b : Bool) : FuncId × V := (madeR.f, V.s (.bool b))
noncomputable def rT : FuncId × V := (twoR.f, .a (.g (bits16 0)))
noncomputable def run (l : List (FuncId × V)) (rows : Know → List (FuncId × Loops)) (n : Int) : Bool := autoB (callT (rigP (lib l) tabF fun K => rowsL (rows K)) f fnFx [] [] (fun _ => V.s (.int .i64 n)) [.g fnCells]) .leaf LT
theorem run4 : run [rL true] (fun _ => []) 4 = true := by kernel_rfl
theorem run8 : run [rL false, rM false] (fun _ => []) 8 = true := by kernel_rfl
theorem run12 : run [rL false, rM true, rT] (fun K => [(f, rowT .ret sR K)]) 12 = true := by kernel_rfl
theorem run0 : run [rL false, rM true, rT] (fun K => [(f, rowT (.exit 0) sN K)]) 0 = true := by kernel_rfl
theorem tagT : tagsOk (F.body.getD .skip) 0 8 = true := by kernel_rfl
end Go.Proofs.YtglmonlofejcgaaDoor.refC
namespace Go.Proofs.YtglmonlofejcgaaDoor.refC
open Go.RowKit Go.Proofs.YtglmonlofejcgaaDoor.Am
set_option maxRecDepth 100000
set_option linter.unusedVariables false
set_option linter.unusedSectionVars false
open twos (Ct)
def goodR (D : FnD) (t : Nat) : Bool := !(Ct.fn D).i t || onceR.onceF D t
def twosR (D : FnD) : Bool := (List.range 16).all (goodR D)
def refF (D : FnD) : Int := if many.manyF D then 4 else if !madeR.madeRF D then 8 else if !twosR D then 12 else 0
def mF (D : FnD) : List Int := rows16 [fun j => b2i ((Ct.fn D).i j)] ++ []
theorem okB_of {D : FnD} (h : madeR.madeRF D = true) : ∀ b ∈ D.bs, made.okB b = true := fun b hb => by
 unfold madeR.madeRF at h
 simp only [Bool.and_eq_true] at h
 have h := List.all_eq_true.1 h.2.2.2.2 b hb
 unfold block.okB at h
 simp only [Bool.and_eq_true] at h
 unfold made.okB
 rw [Bool.and_eq_true]
 refine ⟨List.all_eq_true.2 fun st hst => ?_, h.2.1⟩
 have := List.all_eq_true.1 h.1 st hst
 unfold block.okS at this
 rw [Bool.and_eq_true] at this
 exact this.1
theorem good_eq (D : FnD) (t : Nat) : goodR D t = twos.goodB D t := by
 unfold goodR twos.goodB onceR.onceF
 congr 2
 cases decide ((Ct.fn D).s t = 1) <;> cases decide ((Ct.fn D).p t = 1) <;> cases decide ((Ct.fn D).a t = 2) <;> rfl
section
variable {w : World} {v : Value} {D : FnD} (h : FnOk' w v D)
include h
theorem sm_of (hs : many.manyF D = false) (ok : ∀ b ∈ D.bs, made.okB b = true) : twos.Sm D := by
 obtain ⟨_, h2, h3⟩ := check.small_of hs
 refine ⟨h2, fun b hb => ⟨h3 b hb, ?_⟩⟩
 have ok := ok b hb
 unfold made.okB at ok
 rw [Bool.and_eq_true] at ok
 exact okJ_len (by rw [← (h.blk b hb).prek.len]; rfl) ok.2
theorem start_T : LT.Holds (xsAt (fnXs D (atB 0) (mF D))) (fun _ => []) := by
 have : All2 InI (List.replicate 16 ivB) (mF D) := all2_cat (a := List.replicate 16 ivB) (c := []) (all2_cat (a := List.replicate 16 ivB) (c := []) (twos.in_row16 fun j => in_b _) trivial) trivial
 have := fn_start h (q := atB 0) (fits_B (by omega)) this (m2 := []) (fun _ => [])
 rwa [List.append_nil] at this
theorem row_t {t : Nat} (ht : t < 16) : xsAt (fnXs D (atB 0) (mF D)) (nm 0 t) = b2i ((Ct.fn D).i t) := fn_row (fs := [fun j => b2i ((Ct.fn D).i j)]) (b := 0) (f := fun j => b2i ((Ct.fn D).i j)) rfl ht
theorem last (hs : twos.Sm D) (hok : ∀ b ∈ D.bs, made.okB b = true) {r : Bool} (hr : twosR D = r) : ∀ K (ok : KnowOk K (fnB w D (atB 0) (mF D)).rho (fnB w D (atB 0) (mF D)).sig), @LoopOk ((fnB w D (atB 0) (mF D)).withK K ok) Tryd.prog (rowT (if r then .exit 0 else .ret) (if r then sN else sR) K) codeT := by
 intro K ok
 have hLT := start_T h
 have rg : ∀ t, t < 16 → ∀ b, onceR.onceF D t = b → RigOk Tryd.prog (rigP (fun _ => rOn t b) tabF noLoops) (fnB w D (atB 0) (mF D)) := fun t ht b e => by
  refine rig_ok (fun K ok => ?_) (tabF_ok h _ _) no_loops
  refine @sound_rowG ((fnB w D (atB 0) (mF D)).withK K ok) _ onceR.f ⟨_, Tryd.func22, by kernel_rfl, by kernel_rfl⟩ _ _ (by rfl) [v, .int .i64 t] ⟨fn_val h (atB 0) _ r0, rfl, trivial⟩ (.bool b) (fun r => vmB _ r b) fun w' hw => ?_
  rw [← e]
  exact onceR.once_ans (h.frz hw) hs hok ht
 have gv : ∀ t b, t < 16 → (Ct.fn D).i t = b → ∀ p ∈ [(isE (nm 0 t) 1, b)], p.1.num (xsAt (fnXs D (atB 0) (mF D))) = p.2 := fun t b ht e p hp => by
  obtain rfl := List.mem_singleton.1 hp
  show (decide (_ = (1 : Int)) && true) = b
  rw [row_t h ht, made.dec_b2i, Bool.and_true]
  exact e
 have step : ∀ t, t < 16 → goodR D t = true → TurnsS Tryd.prog (fnB w D (atB 0) (mF D)) (fnB w D (atB 0) (mF D)) codeT (hdT t) .normal (hdT (t + 1)) := fun t ht e => by
  cases ho : onceR.onceF D t with
  | true => exact turn_fn (show autoB (turnT (rigP (fun _ => rOn t true) tabF noLoops) f fnFx [] [] ⟨93, 0, 3⟩ codeT (hdT t) .normal (hdT (t + 1))) (.by (nm 0 t) 1 .leaf .leaf) LT = true from List.all_eq_true.1 goodT t (List.mem_range.2 ht)) (rg t ht true ho) (twos.agree_refl _ _) hLT (fnFx_ok D _ _) (fun p hp => by cases hp) (fun u hu => by cases hu) rfl (no_loopN f codeT)
  | false =>
   have hi : (Ct.fn D).i t = false := by
    unfold goodR at e
    rw [ho, Bool.or_false, Bool.not_eq_true'] at e
    exact e
   exact turn_fn (show autoB (turnT (rigP (fun _ => rOn t false) tabF noLoops) f fnFx [(isE (nm 0 t) 1, false)] [] ⟨93, 0, 3⟩ codeT (hdT t) .normal (hdT (t + 1))) (.by (nm 0 t) 1 .leaf .leaf) LT = true from List.all_eq_true.1 skipT t (List.mem_range.2 ht)) (rg t ht false ho) (twos.agree_refl _ _) hLT (fnFx_ok D _ _) (gv t false ht hi) (fun u hu => by cases hu) rfl (no_loopN f codeT)
 cases r with
 | true =>
  refine @heads_ok _ _ _ codeT _ _ hdT _ _ (fun e => by cases e) 16 (twos.agree_refl _ _) (fun u hu => by cases hu) (fun t ht => step t ht (List.all_eq_true.1 hr t (List.mem_range.2 ht))) ?_ 8 K ok
  exact turn_fn stopT (rig_plain (tabF_ok h _ _)) (twos.agree_refl _ _) hLT (fnFx_ok D _ _) (fun p hp => by cases hp) (fun u hu => by cases hu) rfl (no_loopN f codeT)
 | false =>
  rcases first_not (goodR D) 16 with hall | ⟨N, hN, h0, hn⟩
  ·unfold twosR at hr
   rw [List.all_eq_true.2 fun t ht => hall t (List.mem_range.1 ht)] at hr
   cases hr
  ·refine @heads_ok _ _ _ codeT _ _ hdT _ _ (fun e => by cases e) N (twos.agree_refl _ _) (fun u hu => by cases hu) (fun t ht => step t (by omega) (h0 t ht)) ?_ 8 K ok
   unfold goodR at hn
   rw [Bool.or_eq_false_iff, Bool.not_eq_false'] at hn
   exact turn_fn (show autoB (turnT (rigP (fun _ => rOn N false) tabF noLoops) f fnFx [(isE (nm 0 N) 1, true)] [] ⟨93, 0, 3⟩ codeT (hdT N) .ret sR) (.by (nm 0 N) 1 .leaf .leaf) LT = true from List.all_eq_true.1 badT N (List.mem_range.2 hN)) (rg N hN false hn.2) (twos.agree_refl _ _) hLT (fnFx_ok D _ _) (gv N true hN hn.1) (fun u hu => by cases hu) rfl (no_loopN f codeT)
theorem ref_ans : Answers f [v] w (.int .i64 (refF D)) := by
 have pL : ∀ b, many.manyF D = b → Callable Tryd.prog (rL b).1 ∧ ∃ u, (∀ (b0 : Base) r, (b0.rho = (fnB w D (atB 0) (mF D)).rho) → @VV b0 r (rL b).2 u) ∧ ∀ w', FnOk' w' v D → Answers (rL b).1 [v] w' u := fun b e => ⟨⟨_, Tryd.func19, by kernel_rfl, by kernel_rfl⟩, .bool b, fun _ _ _ => rfl, fun w' hw => e ▸ many.many_ans hw⟩
 have pM : ∀ b, madeR.madeRF D = b → Callable Tryd.prog (rM b).1 ∧ ∃ u, (∀ (b0 : Base) r, (b0.rho = (fnB w D (atB 0) (mF D)).rho) → @VV b0 r (rM b).2 u) ∧ ∀ w', FnOk' w' v D → Answers (rM b).1 [v] w' u := fun b e => ⟨⟨_, Tryd.func20, by kernel_rfl, by kernel_rfl⟩, .bool b, fun _ _ _ => rfl, fun w' hw => e ▸ madeR.madeR_ans hw⟩
 have pT : twos.Sm D → (∀ b ∈ D.bs, made.okB b = true) → Callable Tryd.prog rT.1 ∧ ∃ u, (∀ (b0 : Base) r, (b0.rho = (fnB w D (atB 0) (mF D)).rho) → @VV b0 r rT.2 u) ∧ ∀ w', FnOk' w' v D → Answers rT.1 [v] w' u := fun hs hok => ⟨⟨_, Tryd.func21, by kernel_rfl, by kernel_rfl⟩, twos.isV D, fun b0 r e => by
   refine ⟨_, rfl, all2_by_nth (by simp [bits16]) fun j x u hx hu => ?_⟩
   have hj : j < 16 := by have := (List.getElem?_eq_some_iff.1 hx).1; simpa [bits16] using this
   unfold bits16 at hx
   rw [List.getElem?_map, List.getElem?_range hj] at hx hu
   cases hx
   cases hu
   show Value.bool _ = .bool (decide (b0.rho (nm 0 j) = 1) || false)
   rw [e, show (fnB w D (atB 0) (mF D)).rho (nm 0 j) = _ from row_t h hj, made.dec_b2i, Bool.or_false], fun w' hw => twoR.two_ans hw hs hok⟩
 have go : ∀ {l : List (FuncId × V)} {rows : Know → List (FuncId × Loops)} {n : Int}, run l rows n = true → (∀ p ∈ l, Callable Tryd.prog p.1 ∧ ∃ u, (∀ (b0 : Base) r, (b0.rho = (fnB w D (atB 0) (mF D)).rho) → @VV b0 r p.2 u) ∧ ∀ w', FnOk' w' v D → Answers p.1 [v] w' u) →
   (∀ K (ok : KnowOk K (fnB w D (atB 0) (mF D)).rho (fnB w D (atB 0) (mF D)).sig), ∀ p ∈ rows K, ∃ F : Func, Tryd.prog.funcs[p.1]? = some F ∧ ∀ c, F.body = some c → Loops.ok (@LoopOk ((fnB w D (atB 0) (mF D)).withK K ok) Tryd.prog p.2) c) → Answers f [v] w (.int .i64 n) := fun {l rows n} hr hl hrows => by
  have hr : autoB (callT (rigP (lib l) tabF fun K => rowsL (rows K)) f fnFx [] [] (fun _ => V.s (.int .i64 n)) [.g fnCells]) .leaf LT = true := hr
  refine fn_call h hr (rig_ok (fun K ok => @sound_orcs ((fnB w D (atB 0) (mF D)).withK K ok) _ _ fun o ho => ?_) (tabF_ok h _ _) (rows_ok hrows)) (start_T h) (fnFx_ok D _ _) (fun p hp => by cases hp) (fun r x hx => hx)
  obtain ⟨p, hp, rfl⟩ := List.mem_map.1 ho
  obtain ⟨h1, u, h2, h3⟩ := hl p hp
  exact @sound_rowG ((fnB w D (atB 0) (mF D)).withK K ok) _ p.1 h1 _ _ (by rfl) [v] ⟨fn_val h (atB 0) (mF D) r0, trivial⟩ u (fun r => h2 _ r rfl) fun w' hw => h3 w' (h.frz hw)
 unfold refF
 cases e0 : many.manyF D with
 | true => exact go run4 (fun p hp => by obtain rfl := List.mem_singleton.1 hp; exact pL true e0) (fun K ok p hp => by cases hp)
 | false =>
  cases e1 : madeR.madeRF D with
  | false => exact go run8 (fun p hp => by
    simp only [List.mem_cons, List.not_mem_nil, or_false] at hp
    rcases hp with rfl | rfl
    ·exact pL false e0
    ·exact pM false e1) (fun K ok p hp => by cases hp)
  | true =>
   have hok := okB_of e1
   have hs := sm_of h e0 hok
   have rw3 : ∀ p ∈ [rL false, rM true, rT], Callable Tryd.prog p.1 ∧ ∃ u, (∀ (b0 : Base) r, (b0.rho = (fnB w D (atB 0) (mF D)).rho) → @VV b0 r p.2 u) ∧ ∀ w', FnOk' w' v D → Answers p.1 [v] w' u := fun p hp => by
    simp only [List.mem_cons, List.not_mem_nil, or_false] at hp
    rcases hp with rfl | rfl | rfl
    ·exact pL false e0
    ·exact pM true e1
    ·exact pT hs hok
   have rl : ∀ r, twosR D = r → ∀ K (ok : KnowOk K (fnB w D (atB 0) (mF D)).rho (fnB w D (atB 0) (mF D)).sig), ∀ p ∈ [(f, rowT (if r then .exit 0 else .ret) (if r then sN else sR) K)], ∃ F : Func, Tryd.prog.funcs[p.1]? = some F ∧ ∀ c, F.body = some c → Loops.ok (@LoopOk ((fnB w D (atB 0) (mF D)).withK K ok) Tryd.prog p.2) c := fun r e K ok p hp => by
    obtain rfl := List.mem_singleton.1 hp
    exact ⟨F, Tryd.func7, fun c hc => row_fn tagT (last h hs hok e K ok) hc⟩
   cases e2 : twosR D with
   | false => exact go run12 rw3 (rl false e2)
   | true => exact go run0 rw3 (rl true e2)
end
end Go.Proofs.YtglmonlofejcgaaDoor.refC
