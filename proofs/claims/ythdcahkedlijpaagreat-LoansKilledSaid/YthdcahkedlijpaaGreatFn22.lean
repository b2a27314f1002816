/- The reference's Two tells the two-phase locals. The reference's once, as the machine runs it. -/
import Derived.Test.YthdcahkedlijpaaGreatFn20
namespace Go.Proofs.YthdcahkedlijpaaGreat.twoR
open Go.RowKit Go.Proofs.YthdcahkedlijpaaGreat.Am
set_option maxRecDepth 100000
set_option linter.unusedVariables false
set_option linter.unusedSectionVars false
noncomputable def f : FuncId := 37
noncomputable def F : Func := Tryz.f37
noncomputable def codeO : Code := loopAt F 0
noncomputable def codeI : Code := loopAt F 1
noncomputable def keep : List (Nat × S) := [(1, .ptr 0 0), (2, .ptr 1 0), (3, .ptr 2 0)]
def false16 : List S := List.replicate 16 (.bool false)
def hp (n : Nat) : Hp := [(2, ⟨bits16 n, true⟩), (1, ⟨false16, true⟩), (0, ⟨fnCells, true⟩)]
noncomputable def keepI : List (Nat × S) := keep ++ [(4, .xi .i64 4), (5, .rv 3)]
noncomputable def hdO : St := ⟨frOf F.ntmps (keep ++ [(4, .xi .i64 4)]), ⟨hp 0, 3⟩⟩
noncomputable def hdI : St := ⟨frOf F.ntmps (keepI ++ [(6, .xi .i64 21)]), ⟨hp 0, 3⟩⟩
noncomputable def sNI : St := ⟨frOf F.ntmps keepI, ⟨hp 1, 3⟩⟩
noncomputable def sNO : St := ⟨frOf F.ntmps keep, ⟨hp 0, 3⟩⟩
def twoT : HT := .by 24 1 .leaf (.by 24 2 (.by 28 4 .leaf (.by 28 5 (.by 30 3 .leaf (.by 30 4 .leaf .leaf)) .leaf)) .leaf)
def usI : List Upd := isU (.xi .i64 21) (.xi .i64 22) :: bitU16 0 0 25 (twos.at24 twos.twoE)
noncomputable def L1 : Lf := twos.near16 (((Lf.of (fnIv ++ [])).pin 6 1).pin 23 1) 25
noncomputable def L3 : Lf := ((Lf.of (fnIv ++ [])).pin 6 1).pin 23 0
noncomputable def tbI : Tabs := tabF.app (tabB.app tabS)
theorem stepI : autoB (turnT (rigP libN tbI noLoops) f fnFx [] usI ⟨21, 0, 5⟩ codeI hdI .normal hdI) twoT L1 = true := by kernel_rfl
theorem stopI : autoB (turnT (rigP libN (tabF.app tabB) noLoops) f fnFx [] (sameB16 1 0) ⟨21, 0, 5⟩ codeI hdI (.exit 2) sNI) .leaf L3 = true := by kernel_rfl
noncomputable def rowI (K : Know) : Loops := rowL 8 ⟨21, 0, 5⟩ (@thU K (isU (.xi .i64 21) (.int .i64 0) :: sameB16 0 0)) hdI (.exit 2) sNI
noncomputable def LO : Lf := (Lf.of (fnIv ++ [])).pin 6 1
noncomputable def LO0 : Lf := (Lf.of (fnIv ++ [])).pin 6 0
theorem stepO : autoB (turnT (rigP libN (tabF.app tabB) fun K => rowsL [(f, rowI K)]) f fnFx [] (isU (.xi .i64 4) (.xi .i64 5) :: sameB16 0 1) ⟨4, 0, 3⟩ codeO hdO .normal hdO) .leaf LO = true := by kernel_rfl
theorem stopO : autoB (turnT (rigP libN tabF noLoops) f fnFx [] (sameB16 0 0) ⟨4, 0, 3⟩ codeO hdO (.exit 0) sNO) .leaf LO0 = true := by kernel_rfl
noncomputable def rowO (K : Know) : Loops := rowL 4 ⟨4, 0, 3⟩ (@thU K (isU (.xi .i64 4) (.int .i64 0) :: falseU16 0)) hdO (.exit 0) sNO
noncomputable def LF : Lf := Lf.of (fnIv ++ [])
theorem run_ok : autoB (callT (rigP libN tabF fun K => rowsL [(f, rowO K)]) f fnFx [] [] (fun _ => .a (.g (bits16 0))) [.g fnCells]) .leaf LF = true := by kernel_rfl
theorem tagO : tagsOk (F.body.getD .skip) 0 4 = true := by kernel_rfl
theorem tagI : tagsOk codeO 0 8 = true := by kernel_rfl
theorem tagI2 : tagsOk (F.body.getD .skip) 1 8 = true := by kernel_rfl
def I (D : FnD) (i k j : Nat) : Bool := (twos.ctK D (twos.Ct.at D i) i k).i j
def mI (D : FnD) (i k : Nat) : List Int := rows16 [fun j => b2i (I D i k j)] ++ []
def mO (D : FnD) (i : Nat) : List Int := rows16 [fun j => b2i ((twos.Ct.at D i).i j), fun j => b2i ((twos.Ct.at D (i + 1)).i j)] ++ []
def mF (D : FnD) : List Int := rows16 [fun j => b2i ((twos.Ct.fn D).i j)] ++ []
section
variable {w : World} {v : Value} {D : FnD} (h : FnOk' w v D)
include h
theorem inner {i : Nat} (hi : i < D.bs.length) (hB : D.bs.length ≤ 1000) (hS : (D.blk i).st.length ≤ 1000) (hok : ((D.blk i).st.all fun st => okStE.val st) = true) : ∀ K (ok : KnowOk K (fnB w D (atB i) (mO D i)).rho (fnB w D (atB i) (mO D i)).sig), @LoopOk ((fnB w D (atB i) (mO D i)).withK K ok) Tryz.prog (rowI K) codeI := by
  intro K ok
  have fit : ∀ k, k ≤ (D.blk i).st.length → Fits D (made.atS i k) := fun k hk => fits_small ⟨by show i ≤ 1000; omega, by show k ≤ 1000; omega, Nat.zero_le _, Nat.zero_le _⟩
  have okk := (all_at (D.blk i).st [] fun st => okStE.val st).2 hok
  have r0 : ∀ k j, j < 16 → (fnB w D (made.atS i k) (mI D i k)).rho (nm 0 j) = b2i (I D i k j) := fun k j hj => fn_row (D := D) (q := made.atS i k) (fs := [fun j => b2i (I D i k j)]) (tail := []) (b := 0) (f := fun j => b2i (I D i k j)) rfl hj
  have o0 : ∀ j, j < 16 → (fnB w D (atB i) (mO D i)).rho (nm 0 j) = b2i ((twos.Ct.at D i).i j) := fun j hj => fn_row (D := D) (q := atB i) (fs := [fun j => b2i ((twos.Ct.at D i).i j), fun j => b2i ((twos.Ct.at D (i + 1)).i j)]) (tail := []) (b := 0) (f := fun j => b2i ((twos.Ct.at D i).i j)) rfl hj
  have o1 : ∀ j, j < 16 → (fnB w D (atB i) (mO D i)).rho (nm 1 j) = b2i ((twos.Ct.at D (i + 1)).i j) := fun j hj => fn_row (D := D) (q := atB i) (fs := [fun j => b2i ((twos.Ct.at D i).i j), fun j => b2i ((twos.Ct.at D (i + 1)).i j)]) (tail := []) (b := 1) (f := fun j => b2i ((twos.Ct.at D (i + 1)).i j)) rfl hj
  refine @roundsU_ok _ _ (fun k => fnB w D (made.atS i k) (mI D i k)) codeI _ _ hdI _ _ (fun e => by cases e) (D.blk i).st.length (agree_blk (atB i) (made.atS i 0) rfl _ _) (fun u hu => ?_) (fun k hk => ?_) ?_ 8 K ok
  · rcases List.mem_cons.1 hu with rfl | hu
    · exact isU_ok fun r v hv => hv
    exact sameB16_ok (fun j hj => (o0 j hj).trans ((r0 0 j hj).trans (by show b2i ((twos.Ct.at D i).i j || false) = _; rw [Bool.or_false])).symm) u hu
  · obtain ⟨_, _, _, si⟩ := twos.ct_step (C := twos.Ct.at D i) hk
    have rg := st_range (stm_is h hi hk).1 (okk k hk) (c := 1) (by decide)
    refine turn_fn stepI (rig_plain (@tabs_app (fnB w D (made.atS i k) (mI D i k)) _ _ (tabF_ok h _ _) (@tabs_app (fnB w D (made.atS i k) (mI D i k)) _ _ (tabB_ok h (q := made.atS i k) hi _) (tabS_ok h (q := made.atS i k) hi hk _)))) (agree_blk (made.atS i k) (made.atS i (k + 1)) rfl _ _) (L := L1) ?_ (fnFx_ok D _ _) (fun p hp => by cases hp) (fun u hu => ?_) rfl (no_loopN f codeI)
    · have hb := ((twos.start0 h (made.atS i k) (fit k (by omega)) (mI D i k)).pin (i := 6) (c := 1) (show b2i (decide ((i : Int) < D.bs.length)) = 1 from (one_iff _).2 (by omega))).pin (i := 23) (c := 1) (show b2i (decide ((k : Int) < (D.blk i).st.length)) = 1 from (one_iff _).2 (by omega))
      exact (hb.lo (i := 25) (c := 0) (show 0 ≤ cellI (D.stm i k) 1 from rg.1)).hi (i := 25) (c := 15) (show cellI (D.stm i k) 1 ≤ 15 from rg.2)
    · rcases List.mem_cons.1 hu with rfl | hu
      · exact isU_ok fun r v hv => hv
      refine bitU16_ok (fun j hj => ?_) u hu
      have e25 : (fnB w D (made.atS i k) (mI D i k)).rho 25 = cellI (D.stm i k) 1 := rfl
      rw [show (twos.at24 twos.twoE).num (fnB w D (made.atS i k) (mI D i k)).rho = twos.twoE.num (cellI (D.stm i k)) from stm_num (made.atS i k) _ rfl, e25, r0 (k + 1) j hj, r0 k j hj]
      unfold I
      rw [si j, made.b2i_one, made.b2i_one]
      unfold twos.isS twos.twoB
      rw [Bool.or_eq_true, Bool.and_eq_true, decide_eq_true_iff]
      exact Or.comm
  · refine turn_fn stopI (rig_plain (@tabs_app (fnB w D (made.atS i _) (mI D i _)) _ _ (tabF_ok h _ _) (tabB_ok h (q := made.atS i _) hi _))) (agree_blk (made.atS i (D.blk i).st.length) (atB i) rfl _ _) (L := L3) ?_ (fnFx_ok D _ _) (fun p hp => by cases hp) (fun u hu => ?_) rfl (no_loopN f codeI)
    · exact ((twos.start0 h _ (fit _ (Nat.le_refl _)) _).pin (i := 6) (c := 1) (show b2i (decide ((i : Int) < D.bs.length)) = 1 from (one_iff _).2 (by omega))).pin (i := 23) (c := 0) (show b2i (decide (((D.blk i).st.length : Int) < (D.blk i).st.length)) = 0 by rw [decide_eq_false (by omega)]; rfl)
    · refine sameB16_ok (fun j hj => (r0 _ j hj).trans (Eq.trans ?_ (o1 j hj).symm)) u hu
      have e : twos.ctK D (twos.Ct.at D i) i (D.blk i).st.length = (twos.Ct.at D i).stm (D.blk i).st := by unfold twos.ctK; rw [List.take_length]
      unfold I
      rw [e, twos.at_succ hi]
      exact congrArg b2i (twos.jmp_row h (D.blk i) ((twos.Ct.at D i).stm (D.blk i).st) j).2.2.2.symm
theorem outer (hs : twos.Sm D) (hok : ∀ b ∈ D.bs, made.okB b = true) : ∀ K (ok : KnowOk K (fnB w D (atB 0) (mF D)).rho (fnB w D (atB 0) (mF D)).sig), @LoopOk ((fnB w D (atB 0) (mF D)).withK K ok) Tryz.prog (rowO K) codeO := by
  intro K ok
  have hn := hs.b
  have okb : ∀ i, i < D.bs.length → ((D.blk i).st.all fun st => okStE.val st) = true := fun i hi => by
    have := hok _ (twos.blk_mem hi)
    unfold made.okB at this
    rw [Bool.and_eq_true] at this
    exact this.1
  have o0 : ∀ i j, j < 16 → (fnB w D (atB i) (mO D i)).rho (nm 0 j) = b2i ((twos.Ct.at D i).i j) := fun i j hj => fn_row (D := D) (q := atB i) (fs := [fun j => b2i ((twos.Ct.at D i).i j), fun j => b2i ((twos.Ct.at D (i + 1)).i j)]) (tail := []) (b := 0) (f := fun j => b2i ((twos.Ct.at D i).i j)) rfl hj
  have o1 : ∀ i j, j < 16 → (fnB w D (atB i) (mO D i)).rho (nm 1 j) = b2i ((twos.Ct.at D (i + 1)).i j) := fun i j hj => fn_row (D := D) (q := atB i) (fs := [fun j => b2i ((twos.Ct.at D i).i j), fun j => b2i ((twos.Ct.at D (i + 1)).i j)]) (tail := []) (b := 1) (f := fun j => b2i ((twos.Ct.at D (i + 1)).i j)) rfl hj
  have rI : ∀ i (hi : i < D.bs.length) K (ok : KnowOk K (fnB w D (atB i) (mO D i)).rho (fnB w D (atB i) (mO D i)).sig), @LoopOk ((fnB w D (atB i) (mO D i)).withK K ok) Tryz.prog (rowI K) codeI := fun i hi =>
    inner h hi (by omega) (by have := (hs.s _ (twos.blk_mem hi)).1; omega) (okb i hi)
  refine @roundsU_ok _ _ (fun i => fnB w D (atB i) (mO D i)) codeO _ _ hdO _ _ (fun e => by cases e) D.bs.length (agree_fn _ _ _ _) (fun u hu => ?_) (fun i hi => ?_) ?_ 4 K ok
  · rcases List.mem_cons.1 hu with rfl | hu
    · exact isU_ok fun r v hv => hv
    exact falseU16_ok (fun j hj => o0 0 j hj) u hu
  · refine turn_fn stepO (rig_ok lib_none (@tabs_app (fnB w D (atB i) (mO D i)) _ _ (tabF_ok h _ _) (tabB_ok h (q := atB i) hi _)) (rows_ok (T := fun K => [(f, rowI K)]) fun K ok p hp => ?_)) (agree_fn _ _ _ _) (L := LO) ?_ (fnFx_ok D _ _) (fun p hp => by cases hp) (fun u hu => ?_) rfl (fun K ok => code_rows (F := F) (cc := codeO) fun p hp e => ?_)
    · obtain rfl := List.mem_singleton.1 hp
      exact ⟨F, Tryz.func37, fun c hc => row_fn tagI2 (rI i hi K ok) hc⟩
    · exact (twos.start0 h (atB i) (fits_B (by omega)) (mO D i)).pin (i := 6) (c := 1) (show b2i (decide ((i : Int) < D.bs.length)) = 1 from (one_iff _).2 (by omega))
    · rcases List.mem_cons.1 hu with rfl | hu
      · exact isU_ok fun r v hv => hv
      exact sameB16_ok (fun j hj => (o1 i j hj).trans (o0 (i + 1) j hj).symm) u hu
    · obtain rfl := List.mem_singleton.1 hp
      exact row_code tagI (rI i hi K ok)
  · refine turn_fn stopO (rig_plain (tabF_ok h _ _)) (agree_fn _ _ _ _) (L := LO0) ?_ (fnFx_ok D _ _) (fun p hp => by cases hp) (fun u hu => ?_) rfl (no_loopN f codeO)
    · exact (twos.start0 h (atB D.bs.length) (fits_B (by omega)) _).pin (i := 6) (c := 0) (show b2i (decide ((D.bs.length : Int) < D.bs.length)) = 0 by rw [decide_eq_false (by omega)]; rfl)
    · have e : twos.Ct.at D D.bs.length = twos.Ct.fn D := by unfold twos.Ct.at twos.Ct.fn; rw [List.take_length]
      exact sameB16_ok (fun j hj => (o0 _ j hj).trans (by
        rw [e]
        exact (fn_row (D := D) (q := atB 0) (fs := [fun j => b2i ((twos.Ct.fn D).i j)]) (tail := []) (b := 0) (f := fun j => b2i ((twos.Ct.fn D).i j)) rfl hj).symm)) u hu
theorem two_ans (hs : twos.Sm D) (hok : ∀ b ∈ D.bs, made.okB b = true) : Answers f [v] w (twos.isV D) := by
  refine fn_call h run_ok (rig_ok lib_none (tabF_ok h (atB 0) (mF D)) (rows_ok (T := fun K => [(f, rowO K)]) fun K ok p hp => ?_)) (twos.start0 h (atB 0) (fits_B (by omega)) _) (fnFx_ok D _ _) (fun p hp => by cases hp) (fun r x hx => ?_)
  · obtain rfl := List.mem_singleton.1 hp
    exact ⟨F, Tryz.func37, fun c hc => row_fn tagO (outer h hs hok K ok) hc⟩
  · obtain ⟨us, rfl, hus⟩ := hx
    unfold twos.isV
    congr 2
    refine List.ext_getElem? fun j => ?_
    by_cases hj : j < 16
    · have hb : nth (bits16 0) j = some (.xe [(nm 0 j, 1)]) := by
        rw [nth_eq]
        unfold bits16
        rw [List.getElem?_map, List.getElem?_range hj]
        rfl
      obtain ⟨u, hu, hv⟩ := All2.nth hus hb
      rw [hu, List.getElem?_map, List.getElem?_range hj]
      have hv : u = .bool (decide (xsAt (fnXs D (atB 0) (mF D)) (nm 0 j) = 1) || false) := hv
      rw [hv, show xsAt (fnXs D (atB 0) (mF D)) (nm 0 j) = b2i ((twos.Ct.fn D).i j) from fn_row (D := D) (q := atB 0) (fs := [fun j => b2i ((twos.Ct.fn D).i j)]) (tail := []) (b := 0) (f := fun j => b2i ((twos.Ct.fn D).i j)) rfl hj, made.dec_b2i, Bool.or_false]
      rfl
    · have hl : us.length = 16 := by have := hus.len; simp [bits16] at this; omega
      rw [List.getElem?_eq_none (by omega), List.getElem?_eq_none (by simp; omega)]
end
end Go.Proofs.YthdcahkedlijpaaGreat.twoR
namespace Go.Proofs.YthdcahkedlijpaaGreat.onceR
open Go.RowKit Go.Proofs.YthdcahkedlijpaaGreat.Am
set_option maxRecDepth 100000
set_option linter.unusedVariables false
set_option linter.unusedSectionVars false
noncomputable def f : FuncId := 38
noncomputable def F : Func := Tryz.f38
noncomputable def fP : FuncId := 55
noncomputable def FP : Func := Tryz.f55
noncomputable def codeO : Code := loopAt F 0
noncomputable def codeI : Code := loopAt F 1
noncomputable def codeA : Code := loopAt FP 0
def xi (n : Nat) : S := .xi .i64 n
def lit (t : Nat) : S := .int .i64 t
def hp : Hp := [(0, ⟨fnCells, true⟩)]
noncomputable def keep (t : Nat) : List (Nat × S) := [(1, lit t), (2, .ptr 0 0), (4, .bool false)]
noncomputable def cts (a b c : Nat) : List (Nat × S) := [(5, xi a), (6, xi b), (7, xi c)]
noncomputable def keepI (t : Nat) : List (Nat × S) := keep t ++ [(8, xi 4), (9, .rv 3)]
noncomputable def hdO (t : Nat) : St := ⟨frOf F.ntmps (keep t ++ (cts 93 94 95 ++ [(8, xi 4)])), ⟨hp, 1⟩⟩
noncomputable def sNO (t : Nat) : St := ⟨frOf F.ntmps (keep t ++ cts 93 94 95), ⟨hp, 1⟩⟩
noncomputable def hdI (t : Nat) : St := ⟨frOf F.ntmps (keepI t ++ (cts 93 94 95 ++ [(10, xi 21)])), ⟨hp, 1⟩⟩
noncomputable def sNI (t : Nat) : St := ⟨frOf F.ntmps (keepI t ++ cts 96 97 98), ⟨hp, 1⟩⟩
noncomputable def hdA (t : Nat) : St := ⟨frOf FP.ntmps [(0, .rv 4), (1, lit t), (4, .int .i64 0), (5, xi 77), (6, xi 50)], ⟨[], 0⟩⟩
noncomputable def sNA (t : Nat) : St := ⟨frOf FP.ntmps [(5, xi 101)], ⟨[], 0⟩⟩
def e1 (i : Nat) (c : Int) (t : HT) : HT := .by i c .leaf (.by i (c + 1) t .leaf)
def setE (t : Nat) : E := ands [twos.at24 twos.twoE, isE 25 t, isE 26 0, isE 27 0, .not (isE 41 t)]
def useE (t : Nat) : E := ands [twos.at24 twos.passE, isE 33 t]
def pick (y : Nat) (es : List E) (a b : Nat) : Upd := ⟨xi y, es, fun bs => bif bs.headD false then xi a else xi b⟩
def usI (t : Nat) : List Upd := [isU (xi 21) (xi 22), pick 93 [setE t] 97 93, pick 94 [useE t] 98 94, isU (xi 95) (xi 96)]
def setT (t : Nat) : HT := e1 30 3 (e1 25 t (e1 26 0 (e1 27 0 (e1 41 t .leaf))))
def useT (t : Nat) : HT := e1 31 3 (e1 32 0 (e1 33 t (e1 34 0 (e1 35 0 .leaf))))
def stT (t : Nat) : HT := .by 24 1 .leaf (.by 24 2 (.by 28 1 .leaf (.by 28 2 (useT t) (.by 28 4 .leaf (.by 28 5 (setT t) .leaf)))) .leaf)
noncomputable def rO : Oracle := rowG occurs.f [.g stmCells] (.a (.g (cells16 0)))
noncomputable def L1 : Lf := ((Lf.of (fnIv ++ [])).pin 6 1).pin 23 1
noncomputable def L3 : Lf := ((Lf.of (fnIv ++ [])).pin 6 1).pin 23 0
noncomputable def tbI : Tabs := tabF.app (tabB.app tabS)
def fxI (t : Nat) : Fx := ⟨[(93, 1, 97), (94, 1, 98), (94, 0, 94)], { fnFx.xt with sm := [(95, nm 0 t, 96)] }⟩
noncomputable def stepI (t : Nat) : Bool := autoB (turnT (rigP (fun _ => rO) tbI noLoops) f (fxI t) [(okSN, true)] (usI t) ⟨21, 0, 5⟩ codeI (hdI t) .normal (hdI t)) (stT t) L1
noncomputable def stopI (t : Nat) : Bool := autoB (turnT (rigP libN (tabF.app tabB) noLoops) f fnFx [] [isU (xi 96) (xi 93), isU (xi 97) (xi 94), isU (xi 98) (xi 95)] ⟨21, 0, 5⟩ codeI (hdI t) (.exit 2) (sNI t)) .leaf L3
def passN (t : Nat) : E := ands [isE 53 3, isE 56 0, isE 57 0, isE 55 t]
def usA (t : Nat) : List Upd := [isU (xi 50) (xi 51), pick 77 [passN t] 78 77]
def opT (t : Nat) : HT := e1 53 3 (e1 54 0 (e1 55 t (e1 56 0 (e1 57 0 .leaf))))
def fxA : Fx := ⟨[(77, 1, 78)], fnFx.xt⟩
noncomputable def LA : Lf := ((Lf.of (fnIv ++ [])).pin 6 1).pin 52 1
noncomputable def LA0 : Lf := ((Lf.of (fnIv ++ [])).pin 6 1).pin 52 0
noncomputable def stepA (t : Nat) : Bool := autoB (turnT (rigP libN (tabF.app (tabB.app tabA)) noLoops) fP fxA [(occJump.okN, true)] (usA t) ⟨21, 0, 5⟩ codeA (hdA t) .normal (hdA t)) (opT t) LA
noncomputable def stopA (t : Nat) : Bool := autoB (turnT (rigP libN (tabF.app tabB) noLoops) fP fnFx [] [isU (xi 101) (xi 77)] ⟨21, 0, 5⟩ codeA (hdA t) (.exit 0) (sNA t)) .leaf LA0
noncomputable def rowI (t : Nat) (K : Know) : Loops := rowL 10 ⟨21, 0, 5⟩ (@thU K [isU (xi 21) (.int .i64 0), isU (xi 93) (xi 93), isU (xi 94) (xi 94), isU (xi 95) (xi 95)]) (hdI t) (.exit 2) (sNI t)
noncomputable def rowA (t : Nat) (K : Know) : Loops := rowL 4 ⟨21, 0, 5⟩ (@thU K [isU (xi 50) (.int .i64 0), isU (xi 77) (.int .i64 0)]) (hdA t) (.exit 0) (sNA t)
noncomputable def rOJ : Oracle := rowG occJump.f [.g jmpCells] (.a (.g (cells16 0)))
def fxO (t : Nat) : Fx := ⟨[], { fnFx.xt with sm := [(98, nm 0 t, 99), (97, 101, 100)] }⟩
def usO : List Upd := [isU (xi 4) (xi 5), isU (xi 93) (xi 96), pick 94 [isE 8 4] 100 97, isU (xi 95) (xi 99)]
noncomputable def LO : Lf := (Lf.of (fnIv ++ [])).pin 6 1
noncomputable def LO0 : Lf := (Lf.of (fnIv ++ [])).pin 6 0
noncomputable def stepO (t : Nat) : Bool := autoB (turnT (rigP (fun _ => rOJ) (tabF.app tabB) fun K => rowsL [(f, rowI t K), (fP, rowA t K)]) f (fxO t) [] usO ⟨4, 0, 3⟩ codeO (hdO t) .normal (hdO t)) (e1 8 4 .leaf) LO
noncomputable def stopO (t : Nat) : Bool := autoB (turnT (rigP libN tabF noLoops) f fnFx [] [isU (xi 93) (xi 93), isU (xi 94) (xi 94), isU (xi 95) (xi 95)] ⟨4, 0, 3⟩ codeO (hdO t) (.exit 0) (sNO t)) .leaf LO0
noncomputable def rowO (t : Nat) (K : Know) : Loops := rowL 6 ⟨4, 0, 3⟩ (@thU K [isU (xi 4) (.int .i64 0), isU (xi 93) (.int .i64 0), isU (xi 94) (.int .i64 0), isU (xi 95) (.int .i64 0)]) (hdO t) (.exit 0) (sNO t)
noncomputable def LF : Lf := Lf.of (fnIv ++ List.replicate 19 twos.iv64)
def onceE : E := ands [isE 93 1, isE 94 1, isE 95 2]
noncomputable def runY (t : Nat) : Bool := autoB (callT (rigP libN tabF fun K => rowsL [(f, rowO t K)]) f fnFx [] [onceE] (fun bs => V.s (.bool (bs.headD false))) [.g fnCells, .s (lit t)]) (e1 93 1 (e1 94 1 (e1 95 2 .leaf))) (LF.hi 0 ((t : Int) - 1))
noncomputable def runN (t : Nat) : Bool := autoB (callT (rigP libN tabF noLoops) f fnFx [] [] (fun _ => V.s (.bool false)) [.g fnCells, .s (lit t)]) .leaf (LF.lo 0 t)
theorem stepI_0 : stepI 0 = true := by kernel_rfl
theorem stepI_1 : stepI 1 = true := by kernel_rfl
theorem stepI_2 : stepI 2 = true := by kernel_rfl
theorem stepI_3 : stepI 3 = true := by kernel_rfl
theorem stepI_4 : stepI 4 = true := by kernel_rfl
theorem stepI_5 : stepI 5 = true := by kernel_rfl
theorem stepI_6 : stepI 6 = true := by kernel_rfl
theorem stepI_7 : stepI 7 = true := by kernel_rfl
theorem stepI_8 : stepI 8 = true := by kernel_rfl
theorem stepI_9 : stepI 9 = true := by kernel_rfl
theorem stepI_10 : stepI 10 = true := by kernel_rfl
theorem stepI_11 : stepI 11 = true := by kernel_rfl
theorem stepI_12 : stepI 12 = true := by kernel_rfl
theorem stepI_13 : stepI 13 = true := by kernel_rfl
theorem stepI_14 : stepI 14 = true := by kernel_rfl
theorem stepI_15 : stepI 15 = true := by kernel_rfl
theorem stepI_ok : ∀ t, t < 16 → stepI t = true := by
  intro t h
  match t, h with
  | 0, _ => exact stepI_0
  | 1, _ => exact stepI_1
  | 2, _ => exact stepI_2
  | 3, _ => exact stepI_3
  | 4, _ => exact stepI_4
  | 5, _ => exact stepI_5
  | 6, _ => exact stepI_6
  | 7, _ => exact stepI_7
  | 8, _ => exact stepI_8
  | 9, _ => exact stepI_9
  | 10, _ => exact stepI_10
  | 11, _ => exact stepI_11
  | 12, _ => exact stepI_12
  | 13, _ => exact stepI_13
  | 14, _ => exact stepI_14
  | 15, _ => exact stepI_15
  | n + 16, h => exact absurd h (by omega)
theorem stopI_ok : ((List.range 16).all stopI) = true := by kernel_rfl
theorem stepA_ok : ((List.range 16).all stepA) = true := by kernel_rfl
theorem stopA_ok : ((List.range 16).all stopA) = true := by kernel_rfl
theorem stepO_ok : ((List.range 16).all stepO) = true := by kernel_rfl
theorem stopO_ok : ((List.range 16).all stopO) = true := by kernel_rfl
theorem runY_ok : ((List.range 16).all runY) = true := by kernel_rfl
theorem runN_ok : ((List.range 16).all runN) = true := by kernel_rfl
theorem tagO : tagsOk (F.body.getD .skip) 0 6 = true := by kernel_rfl
theorem tagI : tagsOk codeO 0 10 = true := by kernel_rfl
theorem tagI2 : tagsOk (F.body.getD .skip) 1 10 = true := by kernel_rfl
theorem tagA : tagsOk (FP.body.getD .skip) 0 4 = true := by kernel_rfl
end Go.Proofs.YthdcahkedlijpaaGreat.onceR
