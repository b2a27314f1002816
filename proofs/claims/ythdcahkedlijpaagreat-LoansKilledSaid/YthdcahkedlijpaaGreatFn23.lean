/- What the reference's once answers. -/
import Derived.Test.YthdcahkedlijpaaGreatFn22
namespace Go.Proofs.YthdcahkedlijpaaGreat.onceR
open Go.RowKit Go.Proofs.YthdcahkedlijpaaGreat.Am
set_option maxRecDepth 100000
set_option linter.unusedVariables false
set_option linter.unusedSectionVars false
open twos (Ct)
theorem xi_is {b1 b2 : Base} {y x : Nat} (e : b1.rho x = b2.rho y) : UpdOk b1 b2 (isU (xi y) (xi x)) := by
  intro r v hv
  have hv : v = .int .i64 (b1.rho x) := hv
  show v = .int .i64 (b2.rho y)
  rw [hv, e]
theorem xi_zero {b1 b2 : Base} {y : Nat} (e : b2.rho y = 0) : UpdOk b1 b2 (isU (xi y) (.int .i64 0)) := by
  intro r v hv
  have hv : v = .int .i64 0 := hv
  show v = .int .i64 (b2.rho y)
  rw [hv, e]
theorem pick_ok {b1 b2 : Base} {y a b : Nat} {e : E} (h : (bif e.num b1.rho then b1.rho a else b1.rho b) = b2.rho y) : UpdOk b1 b2 (pick y [e] a b) := by
  intro r v hv
  have hv : @VS b1 r (bif e.num b1.rho then xi a else xi b) v := hv
  show v = .int .i64 (b2.rho y)
  rw [← h]
  cases he : e.num b1.rho with
  | true => rw [he] at hv; exact hv
  | false => rw [he] at hv; exact hv
theorem at93 {D : FnD} {q : At} {G : Nat → Int} {tl : List Int} (j : Nat) : xsAt (fnXs D q (rows16 [G] ++ tl)) (93 + j) = xsAt tl j := by
  rw [show 93 + j = 77 + (16 * 1 + j) by omega]
  exact fn_tail (fs := [G]) rfl j
theorem at77 {D : FnD} {q : At} {G : Nat → Int} {tl : List Int} {j : Nat} (hj : j < 16) : xsAt (fnXs D q (rows16 [G] ++ tl)) (nm 0 j) = G j := fn_row (fs := [G]) (b := 0) rfl hj
def onceF (D : FnD) (t : Nat) : Bool := decide (D.p < t) && (decide ((Ct.fn D).s t = 1) && (decide ((Ct.fn D).p t = 1) && decide ((Ct.fn D).a t = 2)))
def tI (C : Ct) (G : Nat → Int) (t : Nat) : List Int := [C.s t, C.p t, C.a t, C.a t + G t, C.s t + 1, C.p t + 1]
def mI (D : FnD) (i t k : Nat) : List Int := rows16 [twos.occS (D.stm i k)] ++ tI (twos.ctK D (Ct.at D i) i k) (twos.occS (D.stm i k)) t
def nP (b : BlkD) (t k : Nat) : Int := acc (fun op => twos.opPass op t) (b.ops.take k)
def aP (b : BlkD) (t : Nat) : Int := acc (fun op => twos.opPass op t) b.ops
def mA (b : BlkD) (t k : Nat) : List Int := [nP b t k, nP b t k + 1]
def tO (b : BlkD) (C C1 : Ct) (t : Nat) : List Int := [C.s t, C.p t, C.a t, C1.s t, C1.p t, C1.a t, C1.a t + occJump.occJ b t, C1.p t + aP b t, aP b t]
def mO (D : FnD) (t i : Nat) : List Int := rows16 [occJump.occJ (D.blk i)] ++ tO (D.blk i) (Ct.at D i) ((Ct.at D i).stm (D.blk i).st) t
def mF (D : FnD) (t : Nat) : List Int := rows16 [fun _ => 0] ++ [(Ct.fn D).s t, (Ct.fn D).p t, (Ct.fn D).a t]
theorem and4 (a b c d : Bool) : (a && (b && (c && d))) = ((a && (b && c)) && d) := by cases a <;> cases b <;> cases c <;> cases d <;> rfl
theorem setB_eq (st : List Value) (t : Nat) : (twos.twoB st && (decide (cellI st 1 = (t : Int)) && (decide (cellI st 2 = 0) && (decide (cellI st 3 = 0) && !decide (cellI st 17 = (t : Int)))))) = (twos.setB st && decide (cellI st 1 = (t : Int))) := by
  unfold twos.setB
  by_cases h1 : cellI st 1 = (t : Int)
  · rw [h1, decide_eq_true (rfl : (t : Int) = t)]; cases twos.twoB st <;> cases decide (cellI st 2 = 0) <;> cases decide (cellI st 3 = 0) <;> cases decide (cellI st 17 = (t : Int)) <;> rfl
  · rw [decide_eq_false h1]; cases twos.twoB st <;> cases decide (cellI st 2 = 0) <;> cases decide (cellI st 3 = 0) <;> cases decide (cellI st 17 = cellI st 1) <;> rfl
theorem jmp_adds {w : World} {v : Value} {D : FnD} (h : FnOk' w v D) (b : BlkD) (C1 : Ct) (t : Nat) (hno : cellI b.pre 0 ≠ 4 → b.ops = []) :
    (C1.jmp b).a t = C1.a t + occJump.occJ b t ∧ (C1.jmp b).p t = (bif decide (cellI b.pre 0 = 4) then C1.p t + aP b t else C1.p t) ∧ (C1.jmp b).s t = C1.s t := by
  obtain ⟨ja, jp, js, _⟩ := twos.jmp_row h b C1 t
  refine ⟨?_, ?_, js⟩
  · rw [ja]
    unfold occJump.occJ occJump.accA
    by_cases h2 : cellI b.pre 0 = 2
    · rw [if_pos h2, decide_eq_true h2, decide_eq_false (show ¬ cellI b.pre 0 = 4 by omega)]
      by_cases h1 : cellI b.pre 1 = 1
      · rw [if_pos h1, decide_eq_true h1]; show C1.a t = _; omega
      · rw [if_neg h1, decide_eq_false h1]
        show C1.a t + _ = C1.a t + (0 + _)
        omega
    · rw [if_neg h2, decide_eq_false h2]
      by_cases h4 : cellI b.pre 0 = 4
      · rw [if_pos h4, decide_eq_true h4]
        show (C1.a t + b2i _) + acc _ _ = C1.a t + (acc _ _ + b2i _)
        omega
      · rw [if_neg h4, decide_eq_false h4, hno h4]
        show C1.a t = C1.a t + 0
        omega
  · rw [jp]
    rfl
section
variable {w : World} {v : Value} {D : FnD} (h : FnOk' w v D)
include h
theorem rowO_ok {F : FuncId} (hF : Callable Tryz.prog F) {q : At} {G : Nat → Int} {tl : List Int} {cs : List S} {u : Value} (hu : All2 (@VA (fnB w D q (rows16 [G] ++ tl)) r0) [.g cs] [u]) (h1 : [A.g cs].all A.oneR = true) (ha : ∀ w', FnOk' w' v D → Answers F [u] w' (ints16 G)) (K : Know) (ok : KnowOk K (fnB w D q (rows16 [G] ++ tl)).rho (fnB w D q (rows16 [G] ++ tl)).sig) : @Sound ((fnB w D q (rows16 [G] ++ tl)).withK K ok) Tryz.prog (rowG F [.g cs] (.a (.g (cells16 0)))) := by
  refine @sound_rowG ((fnB w D q (rows16 [G] ++ tl)).withK K ok) _ F hF _ _ h1 [u] hu (ints16 G) (fun r => @cells16_ints ((fnB w D q (rows16 [G] ++ tl)).withK K ok) 0 G (fun j hj => fn_row (D := D) (q := q) (fs := [G]) (tail := tl) (b := 0) rfl hj) r) fun w' hw => ha w' (h.frz hw)
theorem fxI_ok {t : Nat} (ht : t < 16) {q : At} {G : Nat → Int} {C : Ct} {M : Int} (hC : C.In M) (hM : M ≤ 900000) (hG : 0 ≤ G t ∧ G t ≤ 1000) : FxOk (fxI t) (xsAt (fnXs D q (rows16 [G] ++ tI C G t))) := by
  have h0 := fnFx_ok D q (rows16 [G] ++ tI C G t)
  have a0 : xsAt (fnXs D q (rows16 [G] ++ tI C G t)) 93 = C.s t := at93 0
  have a1 : xsAt (fnXs D q (rows16 [G] ++ tI C G t)) 94 = C.p t := at93 1
  have a2 : xsAt (fnXs D q (rows16 [G] ++ tI C G t)) 95 = C.a t := at93 2
  have a3 : xsAt (fnXs D q (rows16 [G] ++ tI C G t)) 96 = C.a t + G t := at93 3
  have a4 : xsAt (fnXs D q (rows16 [G] ++ tI C G t)) 97 = C.s t + 1 := at93 4
  have a5 : xsAt (fnXs D q (rows16 [G] ++ tI C G t)) 98 = C.p t + 1 := at93 5
  have b1 := hC.s t
  have b2 := hC.p t
  have b3 := hC.a t
  refine ⟨fun i c k hm => ?_, ⟨h0.xt.lf, fun i j k hm => ?_, h0.xt.ld, h0.xt.sr, h0.xt.eq⟩⟩
  · simp only [fxI, List.mem_cons, List.not_mem_nil, or_false, Prod.mk.injEq] at hm
    rcases hm with ⟨rfl, rfl, rfl⟩ | ⟨rfl, rfl, rfl⟩ | ⟨rfl, rfl, rfl⟩
    · rw [a0, a4]; exact ⟨rfl, by show (-9223372036854775808 : Int) ≤ _; omega, by show _ ≤ (9223372036854775807 : Int); omega⟩
    · rw [a1, a5]; exact ⟨rfl, by show (-9223372036854775808 : Int) ≤ _; omega, by show _ ≤ (9223372036854775807 : Int); omega⟩
    · rw [a1]; exact ⟨by omega, by show (-9223372036854775808 : Int) ≤ _; omega, by show _ ≤ (9223372036854775807 : Int); omega⟩
  · obtain e := List.mem_singleton.1 (show (i, j, k) ∈ [(95, nm 0 t, 96)] from hm)
    cases e
    rw [a2, a3, at77 ht]
    exact ⟨rfl, by show (-9223372036854775808 : Int) ≤ _; omega, by show _ ≤ (9223372036854775807 : Int); omega⟩
theorem inner {i t : Nat} (ht : t < 16) (hi : i < D.bs.length) (hB : D.bs.length ≤ 1000) (hS : (D.blk i).st.length ≤ 1000) (hok : ((D.blk i).st.all fun st => okStE.val st) = true) (hC : (Ct.at D i).In 24000) :
    ∀ K (ok : KnowOk K (fnB w D (atB i) (mO D t i)).rho (fnB w D (atB i) (mO D t i)).sig), @LoopOk ((fnB w D (atB i) (mO D t i)).withK K ok) Tryz.prog (rowI t K) codeI := by
  intro K ok
  have fit : ∀ k, k ≤ (D.blk i).st.length → Fits D (made.atS i k) := fun k hk => fits_small ⟨by show i ≤ 1000; omega, by show k ≤ 1000; omega, Nat.zero_le _, Nat.zero_le _⟩
  have okk := (all_at (D.blk i).st [] fun st => okStE.val st).2 hok
  have n93 : ∀ k, (fnB w D (made.atS i k) (mI D i t k)).rho 93 = (twos.ctK D (Ct.at D i) i k).s t := fun k => at93 0
  have n94 : ∀ k, (fnB w D (made.atS i k) (mI D i t k)).rho 94 = (twos.ctK D (Ct.at D i) i k).p t := fun k => at93 1
  have n95 : ∀ k, (fnB w D (made.atS i k) (mI D i t k)).rho 95 = (twos.ctK D (Ct.at D i) i k).a t := fun k => at93 2
  have n96 : ∀ k, (fnB w D (made.atS i k) (mI D i t k)).rho 96 = (twos.ctK D (Ct.at D i) i k).a t + twos.occS (D.stm i k) t := fun k => at93 3
  have n97 : ∀ k, (fnB w D (made.atS i k) (mI D i t k)).rho 97 = (twos.ctK D (Ct.at D i) i k).s t + 1 := fun k => at93 4
  have n98 : ∀ k, (fnB w D (made.atS i k) (mI D i t k)).rho 98 = (twos.ctK D (Ct.at D i) i k).p t + 1 := fun k => at93 5
  have o93 : (fnB w D (atB i) (mO D t i)).rho 93 = (Ct.at D i).s t := at93 0
  have o94 : (fnB w D (atB i) (mO D t i)).rho 94 = (Ct.at D i).p t := at93 1
  have o95 : (fnB w D (atB i) (mO D t i)).rho 95 = (Ct.at D i).a t := at93 2
  have o96 : (fnB w D (atB i) (mO D t i)).rho 96 = ((Ct.at D i).stm (D.blk i).st).s t := at93 3
  have o97 : (fnB w D (atB i) (mO D t i)).rho 97 = ((Ct.at D i).stm (D.blk i).st).p t := at93 4
  have o98 : (fnB w D (atB i) (mO D t i)).rho 98 = ((Ct.at D i).stm (D.blk i).st).a t := at93 5
  refine @roundsU_ok _ _ (fun k => fnB w D (made.atS i k) (mI D i t k)) codeI _ _ (hdI t) _ _ (fun e => by cases e) (D.blk i).st.length (agree_blk (atB i) (made.atS i 0) rfl _ _) (fun u hu => ?_) (fun k hk => ?_) ?_ 10 K ok
  · simp only [List.mem_cons, List.not_mem_nil, or_false] at hu
    rcases hu with rfl | rfl | rfl | rfl
    · exact isU_ok fun r v hv => hv
    · exact xi_is (o93.trans ((n93 0).trans (by show (Ct.at D i).s t + 0 = _; omega)).symm)
    · exact xi_is (o94.trans ((n94 0).trans (by show (Ct.at D i).p t + 0 = _; omega)).symm)
    · exact xi_is (o95.trans ((n95 0).trans (by show (Ct.at D i).a t + 0 = _; omega)).symm)
  · obtain ⟨sa, sp, ss, _⟩ := twos.ct_step (C := Ct.at D i) hk
    have okS := okk k hk
    have hl : ((D.blk i).st.take k).length ≤ 1000 := by rw [List.length_take]; omega
    refine turn_fn (stepI_ok t ht) (rig_ok (rowO_ok h ⟨_, Tryz.func54, by kernel_rfl, by kernel_rfl⟩ (occurs.stm_VA h (made.atS i k) _ hi hk) (by rfl) fun w' hw => occurs.occ_ans hw hB hS hi hk okS) (@tabs_app (fnB w D (made.atS i k) (mI D i t k)) _ _ (tabF_ok h _ _) (@tabs_app (fnB w D (made.atS i k) (mI D i t k)) _ _ (tabB_ok h (q := made.atS i k) hi _) (tabS_ok h (q := made.atS i k) hi hk _))) no_loops)
      (agree_blk (made.atS i k) (made.atS i (k + 1)) rfl _ _) (L := L1) ?_ (fxI_ok h ht (twos.In.stm hC _) (by omega) (by have := twos.occ_le (D.stm i k) t; omega)) (fun p hp => ?_) (fun u hu => ?_) rfl (no_loopN f codeI)
    · exact ((twos.start0 h (made.atS i k) (fit k (by omega)) _).pin (i := 6) (c := 1) (show b2i (decide ((i : Int) < D.bs.length)) = 1 from (one_iff _).2 (by omega))).pin (i := 23) (c := 1) (show b2i (decide ((k : Int) < (D.blk i).st.length)) = 1 from (one_iff _).2 (by omega))
    · obtain rfl := List.mem_singleton.1 hp
      exact (okS_num (made.atS i k) _).trans okS
    · simp only [usI, List.mem_cons, List.not_mem_nil, or_false] at hu
      rcases hu with rfl | rfl | rfl | rfl
      · exact isU_ok fun r v hv => hv
      · refine pick_ok ?_
        have e25 : (fnB w D (made.atS i k) (mI D i t k)).rho 25 = cellI (D.stm i k) 1 := rfl
        have e26 : (fnB w D (made.atS i k) (mI D i t k)).rho 26 = cellI (D.stm i k) 2 := rfl
        have e27 : (fnB w D (made.atS i k) (mI D i t k)).rho 27 = cellI (D.stm i k) 3 := rfl
        have e41 : (fnB w D (made.atS i k) (mI D i t k)).rho 41 = cellI (D.stm i k) 17 := rfl
        have eS : (setE t).num (fnB w D (made.atS i k) (mI D i t k)).rho = (twos.setB (D.stm i k) && decide (cellI (D.stm i k) 1 = (t : Int))) := by
          show ((twos.at24 twos.twoE).num _ && ((decide (_ = (t : Int)) && true) && ((decide (_ = (0 : Int)) && true) && ((decide (_ = (0 : Int)) && true) && !(decide (_ = (t : Int)) && true))))) = _
          rw [show (twos.at24 twos.twoE).num (fnB w D (made.atS i k) (mI D i t k)).rho = twos.twoB (D.stm i k) from stm_num (made.atS i k) _ rfl, e25, e26, e27, e41, Bool.and_true, Bool.and_true, Bool.and_true, Bool.and_true]
          exact setB_eq _ _
        rw [eS, n93 (k + 1), ss t, n93 k, n97 k]
        unfold twos.setS
        cases (twos.setB (D.stm i k) && decide (cellI (D.stm i k) 1 = (t : Int))) with
        | true => rfl
        | false => show _ = _ + (0 : Int); rw [cond_false]; omega
      · refine pick_ok ?_
        have e33 : (fnB w D (made.atS i k) (mI D i t k)).rho 33 = cellI (D.stm i k) 9 := rfl
        have eS : (useE t).num (fnB w D (made.atS i k) (mI D i t k)).rho = (twos.passB (D.stm i k) && decide (cellI (D.stm i k) 9 = (t : Int))) := by
          show ((twos.at24 twos.passE).num _ && (decide (_ = (t : Int)) && true)) = _
          rw [show (twos.at24 twos.passE).num (fnB w D (made.atS i k) (mI D i t k)).rho = twos.passB (D.stm i k) from stm_num (made.atS i k) _ rfl, e33, Bool.and_true]
        rw [eS, n94 (k + 1), sp t, n94 k, n98 k]
        unfold twos.passS
        cases (twos.passB (D.stm i k) && decide (cellI (D.stm i k) 9 = (t : Int))) with
        | true => rfl
        | false => show _ = _ + (0 : Int); rw [cond_false]; omega
      · exact xi_is ((n96 k).trans (((n95 (k + 1)).trans (sa t)).symm))
  · have e : twos.ctK D (Ct.at D i) i (D.blk i).st.length = (Ct.at D i).stm (D.blk i).st := by unfold twos.ctK; rw [List.take_length]
    refine turn_fn (List.all_eq_true.1 stopI_ok t (List.mem_range.2 ht)) (rig_plain (@tabs_app (fnB w D (made.atS i _) (mI D i t _)) _ _ (tabF_ok h _ _) (tabB_ok h (q := made.atS i _) hi _))) (agree_blk (made.atS i (D.blk i).st.length) (atB i) rfl _ _) (L := L3) ?_ (fnFx_ok D _ _) (fun p hp => by cases hp) (fun u hu => ?_) rfl (no_loopN f codeI)
    · exact ((twos.start0 h _ (fit _ (Nat.le_refl _)) _).pin (i := 6) (c := 1) (show b2i (decide ((i : Int) < D.bs.length)) = 1 from (one_iff _).2 (by omega))).pin (i := 23) (c := 0) (show b2i (decide (((D.blk i).st.length : Int) < (D.blk i).st.length)) = 0 by rw [decide_eq_false (by omega)]; rfl)
    · simp only [List.mem_cons, List.not_mem_nil, or_false] at hu
      rcases hu with rfl | rfl | rfl
      · exact xi_is ((n93 _).trans ((congrArg (fun C : Ct => C.s t) e).trans o96.symm))
      · exact xi_is ((n94 _).trans ((congrArg (fun C : Ct => C.p t) e).trans o97.symm))
      · exact xi_is ((n95 _).trans ((congrArg (fun C : Ct => C.a t) e).trans o98.symm))
theorem args {i t : Nat} (ht : t < 16) (hi : i < D.bs.length) (hB : D.bs.length ≤ 1000) (hA : (D.blk i).ops.length ≤ 1000) (hok : ((D.blk i).ops.all fun el => (okOpE 0).val el) = true) :
    ∀ K (ok : KnowOk K (fnB w D (atB i) (mO D t i)).rho (fnB w D (atB i) (mO D t i)).sig), @LoopOk ((fnB w D (atB i) (mO D t i)).withK K ok) Tryz.prog (rowA t K) codeA := by
  intro K ok
  have fit : ∀ k, k ≤ (D.blk i).ops.length → Fits D (made.atM i k) := fun k hk => fits_small ⟨by show i ≤ 1000; omega, Nat.zero_le _, by show k ≤ 1000; omega, Nat.zero_le _⟩
  have okk := (all_at (D.blk i).ops [] fun el => (okOpE 0).val el).2 hok
  have n77 : ∀ k, (fnB w D (made.atM i k) (mA (D.blk i) t k)).rho 77 = nP (D.blk i) t k := fun k => fn_more (D := D) (q := made.atM i k) 0
  have n78 : ∀ k, (fnB w D (made.atM i k) (mA (D.blk i) t k)).rho 78 = nP (D.blk i) t k + 1 := fun k => fn_more (D := D) (q := made.atM i k) 1
  have o101 : (fnB w D (atB i) (mO D t i)).rho 101 = aP (D.blk i) t := at93 8
  refine @roundsU_ok _ _ (fun k => fnB w D (made.atM i k) (mA (D.blk i) t k)) codeA _ _ (hdA t) _ _ (fun e => by cases e) (D.blk i).ops.length (agree_blk (atB i) (made.atM i 0) rfl _ _) (fun u hu => ?_) (fun k hk => ?_) ?_ 4 K ok
  · simp only [List.mem_cons, List.not_mem_nil, or_false] at hu
    rcases hu with rfl | rfl
    · exact isU_ok fun r v hv => hv
    · exact xi_zero (n77 0)
  · have hb : 0 ≤ nP (D.blk i) t k ∧ nP (D.blk i) t k ≤ 1000 := by
      have := acc_le (fun op => twos.opPass op t) 1 ((D.blk i).ops.take k) fun x _ => b2i_le _
      have hl : ((D.blk i).ops.take k).length ≤ 1000 := by rw [List.length_take]; omega
      unfold nP
      omega
    refine turn_fn (List.all_eq_true.1 stepA_ok t (List.mem_range.2 ht)) (rig_plain (@tabs_app (fnB w D (made.atM i k) (mA (D.blk i) t k)) _ _ (tabF_ok h _ _) (@tabs_app (fnB w D (made.atM i k) (mA (D.blk i) t k)) _ _ (tabB_ok h (q := made.atM i k) hi _) (tabA_ok h (q := made.atM i k) hi hk _)))) (agree_blk (made.atM i k) (made.atM i (k + 1)) rfl _ _) (L := LA) ?_ ?_ (fun p hp => ?_) (fun u hu => ?_) rfl (no_loopN fP codeA)
    · exact ((twos.start0 h (made.atM i k) (fit k (by omega)) _).pin (i := 6) (c := 1) (show b2i (decide ((i : Int) < D.bs.length)) = 1 from (one_iff _).2 (by omega))).pin (i := 52) (c := 1) (show b2i (decide ((k : Int) < (D.blk i).ops.length)) = 1 from (one_iff _).2 (by omega))
    · refine ⟨fun a c b hm => ?_, (fnFx_ok D _ _).xt⟩
      obtain e := List.mem_singleton.1 (show (a, c, b) ∈ [(77, (1 : Int), 78)] from hm)
      cases e
      rw [show xsAt (fnXs D (made.atM i k) (mA (D.blk i) t k)) 77 = _ from n77 k, show xsAt (fnXs D (made.atM i k) (mA (D.blk i) t k)) 78 = _ from n78 k]
      exact ⟨rfl, by show (-9223372036854775808 : Int) ≤ _; omega, by show _ ≤ (9223372036854775807 : Int); omega⟩
    · obtain rfl := List.mem_singleton.1 hp
      exact (opd_num (made.atM i k) _ (e := okOpE 0) rfl).trans ((E.val_num _ _).symm.trans (okk k hk))
    · simp only [usA, List.mem_cons, List.not_mem_nil, or_false] at hu
      rcases hu with rfl | rfl
      · exact isU_ok fun r v hv => hv
      · refine pick_ok ?_
        have e53 : (fnB w D (made.atM i k) (mA (D.blk i) t k)).rho 53 = cellI (D.opd i k) 0 := rfl
        have e55 : (fnB w D (made.atM i k) (mA (D.blk i) t k)).rho 55 = cellI (D.opd i k) 2 := rfl
        have e56 : (fnB w D (made.atM i k) (mA (D.blk i) t k)).rho 56 = cellI (D.opd i k) 3 := rfl
        have e57 : (fnB w D (made.atM i k) (mA (D.blk i) t k)).rho 57 = cellI (D.opd i k) 4 := rfl
        have eN : (passN t).num (fnB w D (made.atM i k) (mA (D.blk i) t k)).rho = (twos.opPassB (D.opd i k) && decide (cellI (D.opd i k) 2 = (t : Int))) := by
          show ((decide (_ = (3 : Int)) && true) && ((decide (_ = (0 : Int)) && true) && ((decide (_ = (0 : Int)) && true) && (decide (_ = (t : Int)) && true)))) = _
          rw [e53, e55, e56, e57, Bool.and_true, Bool.and_true, Bool.and_true, Bool.and_true]
          exact and4 _ _ _ _
        have sn : nP (D.blk i) t (k + 1) = nP (D.blk i) t k + twos.opPass (D.opd i k) t := by unfold nP; rw [acc_take _ _ [] hk]; rfl
        rw [eN, n77 (k + 1), sn, n77 k, n78 k]
        unfold twos.opPass
        cases (twos.opPassB (D.opd i k) && decide (cellI (D.opd i k) 2 = (t : Int))) with
        | true => rfl
        | false => show _ = _ + (0 : Int); rw [cond_false]; omega
  · refine turn_fn (List.all_eq_true.1 stopA_ok t (List.mem_range.2 ht)) (rig_plain (@tabs_app (fnB w D (made.atM i _) (mA (D.blk i) t _)) _ _ (tabF_ok h _ _) (tabB_ok h (q := made.atM i _) hi _))) (agree_blk (made.atM i (D.blk i).ops.length) (atB i) rfl _ _) (L := LA0) ?_ (fnFx_ok D _ _) (fun p hp => by cases hp) (fun u hu => ?_) rfl (no_loopN fP codeA)
    · exact ((twos.start0 h _ (fit _ (Nat.le_refl _)) _).pin (i := 6) (c := 1) (show b2i (decide ((i : Int) < D.bs.length)) = 1 from (one_iff _).2 (by omega))).pin (i := 52) (c := 0) (show b2i (decide (((D.blk i).ops.length : Int) < (D.blk i).ops.length)) = 0 by rw [decide_eq_false (by omega)]; rfl)
    · obtain rfl := List.mem_singleton.1 hu
      exact xi_is ((n77 _).trans ((show nP (D.blk i) t (D.blk i).ops.length = aP (D.blk i) t by unfold nP aP; rw [List.take_length]).trans o101.symm))
end
end Go.Proofs.YthdcahkedlijpaaGreat.onceR
