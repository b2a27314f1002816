/- fnshape.twos: arguments, blocks, the last loop; what it answers. -/
import Derived.Test.YthdcahkedlijpaaGreatFn11
namespace Go.Proofs.YthdcahkedlijpaaGreat.twos
open Go.RowKit Go.Proofs.YthdcahkedlijpaaGreat.Am
set_option maxRecDepth 100000
set_option linter.unusedVariables false
set_option linter.unusedSectionVars false
def rowsA (op : List Value) (C : Ct) : List (Nat → Int) := [C.a, C.p, bump C.a (cellI op 2), bump C.p (cellI op 2), C.s, fun j => b2i (C.i j)]
def moreA (op : List Value) (C : Ct) : List Int := rows16 (rowsA op C) ++ (two1 C.a (cellI op 2) ++ two1 C.p (cellI op 2))
def mA (D : FnD) (C : Ct) (i k : Nat) : List Int := moreA (D.opd i k) (C.opd ((D.blk i).ops.take k))
theorem fx_A {D : FnD} {q : At} {C : Ct} {M : Int} (h : C.In M) (hM : M ≤ 900000) : FxOk (trFx trA) (xsAt (fnXs D q (moreA (D.opd q.i q.m) C))) := by
  refine trFx_ok (fnFx_ok D q _) fun t ht => ?_
  have l55 : xsAt (fnXs D q (moreA (D.opd q.i q.m) C)) 55 = cellI (D.opd q.i q.m) 2 := rfl
  unfold moreA at l55 ⊢
  simp only [trA, List.mem_cons, List.not_mem_nil, or_false] at ht
  rcases ht with rfl | rfl
  · exact cnt_ok (N := 6) (n := 0) rfl rfl (by rw [l55]; rfl) rfl (by rw [l55]; rfl) (by rw [l55]; rfl) h.a (by omega)
  · exact cnt_ok (N := 6) (n := 2) rfl rfl (by rw [l55]; rfl) rfl (by rw [l55]; rfl) (by rw [l55]; rfl) h.p (by omega)
def rowsB (b : BlkD) (C : Ct) : List (Nat → Int) :=
  let C1 := C.stm b.st
  let C2 := (C1.dest (cellI b.post 0)).opd b.ops
  [C.a, C.p, C.s, fun j => b2i (C.i j), C1.a, C1.p, C1.s, fun j => b2i (C1.i j), bump C1.a (cellI b.pre 3), bump C1.a (cellI b.post 0), C2.a, C2.p]
def moreB (b : BlkD) (C : Ct) : List Int := rows16 (rowsB b C) ++ (two1 (C.stm b.st).a (cellI b.pre 3) ++ two1 (C.stm b.st).a (cellI b.post 0))
def mB' (D : FnD) (i : Nat) : List Int := moreB (D.blk i) (Ct.at D i)
theorem fx_B {D : FnD} {i : Nat} {M : Int} (h : (Ct.at D i).In M) (hM : M + 3 * (D.blk i).st.length ≤ 900000) : FxOk (trFx trO) (xsAt (fnXs D (atB i) (mB' D i))) := by
  refine trFx_ok (fnFx_ok D _ _) fun t ht => ?_
  have l11 : xsAt (fnXs D (atB i) (mB' D i)) 11 = cellI (D.blk i).pre 3 := rfl
  have l18 : xsAt (fnXs D (atB i) (mB' D i)) 18 = cellI (D.blk i).post 0 := rfl
  have h1 := In.stm h (D.blk i).st
  unfold mB' moreB at l11 l18 ⊢
  simp only [trO, List.mem_cons, List.not_mem_nil, or_false] at ht
  rcases ht with rfl | rfl
  · exact cnt_ok (N := 12) (n := 0) rfl rfl (by rw [l11]; rfl) rfl (by rw [l11]; rfl) (by rw [l11]; rfl) h1.a (by omega)
  · exact cnt_ok (N := 12) (n := 2) rfl rfl (by rw [l18]; rfl) rfl (by rw [l18]; rfl) (by rw [l18]; rfl) h1.a (by omega)
def goodB (D : FnD) (t : Nat) : Bool := !(Ct.fn D).i t || (decide (D.p < t) && (decide ((Ct.fn D).a t = 2) && (decide ((Ct.fn D).p t = 1) && decide ((Ct.fn D).s t = 1))))
def twosF (D : FnD) : Bool := (List.range 16).all (goodB D)
def mF (D : FnD) : List Int := rows16 [(Ct.fn D).a, (Ct.fn D).p, (Ct.fn D).s, fun j => b2i ((Ct.fn D).i j)]
section
variable {w : World} {v : Value} {D : FnD} (h : FnOk' w v D)
include h
theorem args {C : Ct} {M : Int} (hC : C.In M) (hM : M ≤ 100000) {q : At} {m : List Int} (hi : q.i < D.bs.length) (hB : D.bs.length ≤ 1000) (hA : (D.blk q.i).ops.length ≤ 1000) (hok : ((D.blk q.i).ops.all fun el => (okOpE 0).val el) = true)
    (h0 : ∀ j, j < 16 → xsAt (fnXs D q m) (nm 9 j) = C.a j ∧ xsAt (fnXs D q m) (nm 5 j) = C.p j ∧ xsAt (fnXs D q m) (nm 6 j) = C.s j ∧ xsAt (fnXs D q m) (nm 7 j) = b2i (C.i j))
    (h1 : ∀ j, j < 16 → xsAt (fnXs D q m) (nm 10 j) = (C.opd (D.blk q.i).ops).a j ∧ xsAt (fnXs D q m) (nm 11 j) = (C.opd (D.blk q.i).ops).p j) :
    ∀ K (ok : KnowOk K (fnB w D q m).rho (fnB w D q m).sig), @LoopOk ((fnB w D q m).withK K ok) Tryz.prog (rowA K) codeA := by
  intro K ok
  have fit : ∀ k, k ≤ (D.blk q.i).ops.length → Fits D (made.atM q.i k) := fun k hk => fits_small ⟨by show q.i ≤ 1000; omega, Nat.zero_le _, by show k ≤ 1000; omega, Nat.zero_le _⟩
  have okk := (all_at (D.blk q.i).ops [] fun el => (okOpE 0).val el).2 hok
  have r0 : ∀ k b F, (rowsA (D.opd q.i k) (C.opd ((D.blk q.i).ops.take k)))[b]? = some F → ∀ j, j < 16 → (fnB w D (made.atM q.i k) (mA D C q.i k)).rho (nm b j) = F j := fun k b F e j hj => fn_row e hj
  have us : ∀ u ∈ us1, UpdOk (fnB w D q m) (fnB w D (made.atM q.i 0) (mA D C q.i 0)) u := fun u hu => by
    rcases List.mem_cons.1 hu with rfl | hu
    · exact isU_ok fun r v hv => hv
    refine ups_app (pickU_ok fun j hj => ?_) (ups_app (pickU_ok fun j hj => ?_) (ups_app (pickU_ok fun j hj => ?_) (sameB16_ok fun j hj => ?_))) u hu
    · exact (h0 j hj).1.trans ((r0 0 0 _ rfl j hj).trans (by show C.a j + 0 = _; omega)).symm
    · exact (h0 j hj).2.1.trans ((r0 0 1 _ rfl j hj).trans (by show C.p j + 0 = _; omega)).symm
    · exact (h0 j hj).2.2.1.trans (r0 0 4 _ rfl j hj).symm
    · exact (h0 j hj).2.2.2.trans (r0 0 5 _ rfl j hj).symm
  refine @roundsU_ok _ _ (fun k => fnB w D (made.atM q.i k) (mA D C q.i k)) codeA _ _ hdA _ _ (fun e => by cases e) (D.blk q.i).ops.length (agree_blk q (made.atM q.i 0) rfl _ _) us (fun k hk => ?_) ?_ 2 K ok
  · have rg := op_range (opd_is h hi hk).1 (okk k hk)
    refine turn_fn stepA (rig_plain (@tabs_app (fnB w D (made.atM q.i k) (mA D C q.i k)) _ _ (tabF_ok h _ _) (@tabs_app (fnB w D (made.atM q.i k) (mA D C q.i k)) _ _ (tabB_ok h (q := made.atM q.i k) hi _) (tabA_ok h (q := made.atM q.i k) hi hk _)))) (agree_blk (made.atM q.i k) (made.atM q.i (k + 1)) rfl _ _) (L := LA) ?_
      (fx_A (q := made.atM q.i k) (In.opd hC _) (by have : ((D.blk q.i).ops.take k).length ≤ 1000 := by rw [List.length_take]; omega
                                                    omega)) (fun p hp => by cases hp) (fun u hu => ?_) rfl (no_loopN fO codeA)
    · have hb := ((start0 h (made.atM q.i k) (fit k (by omega)) (mA D C q.i k)).pin (i := 6) (c := 1) (show b2i (decide ((q.i : Int) < D.bs.length)) = 1 from (one_iff _).2 (by omega))).pin (i := 52) (c := 1) (show b2i (decide ((k : Int) < (D.blk q.i).ops.length)) = 1 from (one_iff _).2 (by omega))
      exact (hb.lo (i := 55) (c := 0) (show 0 ≤ cellI (D.opd q.i k) 2 from rg.1)).hi (i := 55) (c := 15) (show cellI (D.opd q.i k) 2 ≤ 15 from rg.2)
    · have e53 : (fnB w D (made.atM q.i k) (mA D C q.i k)).rho 53 = cellI (D.opd q.i k) 0 := rfl
      have e56 : (fnB w D (made.atM q.i k) (mA D C q.i k)).rho 56 = cellI (D.opd q.i k) 3 := rfl
      have e57 : (fnB w D (made.atM q.i k) (mA D C q.i k)).rho 57 = cellI (D.opd q.i k) 4 := rfl
      have sa : ∀ j, (C.opd ((D.blk q.i).ops.take (k + 1))).a j = (C.opd ((D.blk q.i).ops.take k)).a j + opOcc (D.opd q.i k) j := fun j => by show C.a j + acc _ _ = C.a j + acc _ _ + _; rw [acc_take _ _ [] hk]; unfold FnD.opd; omega
      have sp : ∀ j, (C.opd ((D.blk q.i).ops.take (k + 1))).p j = (C.opd ((D.blk q.i).ops.take k)).p j + opPass (D.opd q.i k) j := fun j => by show C.p j + acc _ _ = C.p j + acc _ _ + _; rw [acc_take _ _ [] hk]; unfold FnD.opd; omega
      rcases List.mem_cons.1 hu with rfl | hu
      · exact isU_ok fun r v hv => hv
      refine ups_app (pickU_ok fun j hj => ?_) (ups_app (pickU_ok fun j hj => ?_) (ups_app (pickU_ok fun j hj => ?_) (sameB16_ok fun j hj => ?_))) u hu
      · have eN : placedN.num (fnB w D (made.atM q.i k) (mA D C q.i k)).rho = !decide (cellI (D.opd q.i k) 0 = 1) := by
          show (!(decide (_ = (1 : Int)) && true)) = _
          rw [e53, Bool.and_true]
        simp only [List.map_cons, List.map_nil, List.headD_cons]
        rw [eN, r0 (k + 1) 0 _ rfl j hj, sa j]
        unfold opOcc
        cases hp : (!decide (cellI (D.opd q.i k) 0 = 1)) with
        | false => rw [cond_false, r0 k 0 _ rfl j hj, Bool.false_and]; show _ = _ + (0 : Int); omega
        | true => rw [cond_true, r0 k 2 _ rfl j hj, Bool.true_and]; rfl
      · have eN : passN.num (fnB w D (made.atM q.i k) (mA D C q.i k)).rho = opPassB (D.opd q.i k) := by
          show ((decide (_ = (3 : Int)) && true) && ((decide (_ = (0 : Int)) && true) && (decide (_ = (0 : Int)) && true))) = _
          rw [e53, e56, e57, Bool.and_true, Bool.and_true, Bool.and_true]
          rfl
        simp only [List.map_cons, List.map_nil, List.headD_cons]
        rw [eN, r0 (k + 1) 1 _ rfl j hj, sp j]
        unfold opPass
        cases hp : opPassB (D.opd q.i k) with
        | false => rw [cond_false, r0 k 1 _ rfl j hj, Bool.false_and]; show _ = _ + (0 : Int); omega
        | true => rw [cond_true, r0 k 3 _ rfl j hj, Bool.true_and]; rfl
      · exact (r0 k 4 _ rfl j hj).trans (r0 (k + 1) 4 _ rfl j hj).symm
      · exact (r0 k 5 _ rfl j hj).trans (r0 (k + 1) 5 _ rfl j hj).symm
  · refine turn_fn stopA (rig_plain (@tabs_app (fnB w D (made.atM q.i _) (mA D C q.i _)) _ _ (tabF_ok h _ _) (tabB_ok h (q := made.atM q.i _) hi _))) (agree_blk (made.atM q.i (D.blk q.i).ops.length) q rfl _ _) (L := LA0) ?_ (fnFx_ok D _ _) (fun p hp => by cases hp) (fun u hu => ?_) rfl (no_loopN fO codeA)
    · exact ((start0 h _ (fit _ (Nat.le_refl _)) _).pin (i := 6) (c := 1) (show b2i (decide ((q.i : Int) < D.bs.length)) = 1 from (one_iff _).2 (by omega))).pin (i := 52) (c := 0) (show b2i (decide (((D.blk q.i).ops.length : Int) < (D.blk q.i).ops.length)) = 0 by rw [decide_eq_false (by omega)]; rfl)
    · have rr := r0 (D.blk q.i).ops.length
      rw [List.take_length] at rr
      refine ups_app (pickU_ok fun j hj => ?_) (ups_app (pickU_ok fun j hj => ?_) (ups_app (pickU_ok fun j hj => ?_) (sameB16_ok fun j hj => ?_))) u hu
      · exact (rr 0 _ rfl j hj).trans (h1 j hj).1.symm
      · exact (rr 1 _ rfl j hj).trans (h1 j hj).2.symm
      · exact (rr 4 _ rfl j hj).trans (h0 j hj).2.2.1.symm
      · exact (rr 5 _ rfl j hj).trans (h0 j hj).2.2.2.symm
theorem blk_row {i b : Nat} {G : Nat → Int} (e : (rowsB (D.blk i) (Ct.at D i))[b]? = some G) {j : Nat} (hj : j < 16) : (fnB w D (atB i) (mB' D i)).rho (nm b j) = G j := fn_row e hj
theorem jmp_row (b : BlkD) (C1 : Ct) (j : Nat) : ((C1.jmp b).a j = (bif (decide (cellI b.pre 0 = 2) && !decide (cellI b.pre 1 = 1)) then bump C1.a (cellI b.pre 3) j else bif decide (cellI b.pre 0 = 4) then ((C1.dest (cellI b.post 0)).opd b.ops).a j else C1.a j)) ∧
    ((C1.jmp b).p j = (bif decide (cellI b.pre 0 = 4) then ((C1.dest (cellI b.post 0)).opd b.ops).p j else C1.p j)) ∧ (C1.jmp b).s j = C1.s j ∧ (C1.jmp b).i j = C1.i j := by
  unfold Ct.jmp
  by_cases h2 : cellI b.pre 0 = 2
  · rw [if_pos h2, decide_eq_true h2, decide_eq_false (show ¬ cellI b.pre 0 = 4 by omega)]
    by_cases h1 : cellI b.pre 1 = 1
    · rw [if_pos h1, decide_eq_true h1]; exact ⟨rfl, rfl, rfl, rfl⟩
    · rw [if_neg h1, decide_eq_false h1]; exact ⟨rfl, rfl, rfl, rfl⟩
  · rw [if_neg h2, decide_eq_false h2]
    by_cases h4 : cellI b.pre 0 = 4
    · rw [if_pos h4, decide_eq_true h4]; exact ⟨rfl, rfl, rfl, rfl⟩
    · rw [if_neg h4, decide_eq_false h4]; exact ⟨rfl, rfl, rfl, rfl⟩
theorem outer (hs : Sm D) (hok : ∀ b ∈ D.bs, made.okB b = true) : ∀ K (ok : KnowOk K (fnB w D (atB 0) (mF D)).rho (fnB w D (atB 0) (mF D)).sig), @LoopOk ((fnB w D (atB 0) (mF D)).withK K ok) Tryz.prog (rowF K) codeO := by
  intro K ok
  have hn := hs.b
  have okb : ∀ i, i < D.bs.length → ((D.blk i).st.all fun st => okStE.val st) = true ∧ okJF (D.blk i) = true := fun i hi => by
    have := hok _ (blk_mem hi)
    unfold made.okB at this
    rwa [Bool.and_eq_true] at this
  have hfO : fO ≠ f := by decide
  have inat : ∀ i, i < D.bs.length → (Ct.at D i).In 24000 := fun i hi => In.more (In.at hs (by omega)) (by omega)
  have jf := fun i (hi : i < D.bs.length) => jm_facts (jump_is h hi) (okb i hi).2
  have opsok : ∀ i, i < D.bs.length → ((D.blk i).ops.all fun el => (okOpE 0).val el) = true := fun i hi => by
    rcases (jf i hi).2.2 with e | e
    · exact e
    · rw [List.eq_nil_of_length_eq_zero e]; rfl
  have rI : ∀ i (hi : i < D.bs.length) K (ok : KnowOk K (fnB w D (atB i) (mB' D i)).rho (fnB w D (atB i) (mB' D i)).sig), @LoopOk ((fnB w D (atB i) (mB' D i)).withK K ok) Tryz.prog (rowI K) codeI := fun i hi =>
    inner h (inat i hi) (by decide) (q := atB i) hi (by omega) (by have := (hs.s _ (blk_mem hi)).1; show (D.blk i).st.length ≤ 1000; omega) (okb i hi).1
      (fun j hj => ⟨blk_row h (i := i) (b := 0) rfl hj, blk_row h (i := i) (b := 1) rfl hj, blk_row h (i := i) (b := 2) rfl hj, blk_row h (i := i) (b := 3) (G := fun j => b2i ((Ct.at D i).i j)) rfl hj⟩) (fun j hj => ⟨blk_row h (i := i) (b := 4) rfl hj, blk_row h (i := i) (b := 5) rfl hj, blk_row h (i := i) (b := 6) rfl hj, blk_row h (i := i) (b := 7) (G := fun j => b2i (((Ct.at D i).stm (D.blk i).st).i j)) rfl hj⟩)
  have rA : ∀ i (hi : i < D.bs.length) K (ok : KnowOk K (fnB w D (atB i) (mB' D i)).rho (fnB w D (atB i) (mB' D i)).sig), @LoopOk ((fnB w D (atB i) (mB' D i)).withK K ok) Tryz.prog (rowA K) codeA := fun i hi =>
    args h (C := ((Ct.at D i).stm (D.blk i).st).dest (cellI (D.blk i).post 0)) (In.dest (In.stm (inat i hi) _) _) (by have := (hs.s _ (blk_mem hi)).1; omega) (q := atB i) hi (by omega) (by have := (hs.s _ (blk_mem hi)).2; show (D.blk i).ops.length ≤ 1000; omega) (opsok i hi)
      (fun j hj => ⟨blk_row h (i := i) (b := 9) rfl hj, blk_row h (i := i) (b := 5) rfl hj, blk_row h (i := i) (b := 6) rfl hj, blk_row h (i := i) (b := 7) (G := fun j => b2i (((Ct.at D i).stm (D.blk i).st).i j)) rfl hj⟩) (fun j hj => ⟨blk_row h (i := i) (b := 10) rfl hj, blk_row h (i := i) (b := 11) rfl hj⟩)
  have us : ∀ u ∈ isU (.xi .i64 4) (.int .i64 0) :: (zeroU16 0 ++ (zeroU16 1 ++ (zeroU16 2 ++ falseU16 3))), UpdOk (fnB w D (atB 0) (mF D)) (fnB w D (atB 0) (mB' D 0)) u := fun u hu => by
    rcases List.mem_cons.1 hu with rfl | hu
    · exact isU_ok fun r v hv => hv
    exact ups_app (zeroU16_ok fun j hj => blk_row h (i := 0) (b := 0) rfl hj) (ups_app (zeroU16_ok fun j hj => blk_row h (i := 0) (b := 1) rfl hj) (ups_app (zeroU16_ok fun j hj => blk_row h (i := 0) (b := 2) rfl hj) (falseU16_ok fun j hj => (blk_row h (i := 0) (b := 3) (G := fun j => b2i ((Ct.at D 0).i j)) rfl hj).trans rfl))) u hu
  refine @roundsU_ok _ _ (fun i => fnB w D (atB i) (mB' D i)) codeO _ _ hdO _ _ (fun e => by cases e) D.bs.length (agree_fn _ _ _ _) us (fun i hi => ?_) ?_ 5 K ok
  · refine turn_fn stepO (rig_ok lib_none (@tabs_app (fnB w D (atB i) (mB' D i)) _ _ (tabF_ok h _ _) (tabB_ok h (q := atB i) hi _)) (rows_ok fun K ok p hp => ?_)) (agree_fn _ _ _ _) (L := LO) ?_ (fx_B (inat i hi) (by have := (hs.s _ (blk_mem hi)).1; omega)) (fun p hp => by cases hp) (fun u hu => ?_) rfl (fun K ok => code_rows (F := F) (cc := codeO) fun p hp e => ?_)
    · simp only [List.mem_cons, List.not_mem_nil, or_false] at hp
      rcases hp with rfl | rfl
      · exact ⟨F, Tryz.func42, fun c hc => row_fn tagI2 (rI i hi K ok) hc⟩
      · exact ⟨FO, Tryz.func91, fun c hc => row_fn tagA (rA i hi K ok) hc⟩
    · have hb := (start0 h (atB i) (fits_B (by omega)) (mB' D i)).pin (i := 6) (c := 1) (show b2i (decide ((i : Int) < D.bs.length)) = 1 from (one_iff _).2 (by omega))
      obtain ⟨⟨j1, j2⟩, ⟨j3, j4⟩, _⟩ := jf i hi
      exact (((hb.lo (i := 11) (c := 0) j1).hi (i := 11) (c := 15) j2).lo (i := 18) (c := 0) j3).hi (i := 18) (c := 15) j4
    · have e8 : (fnB w D (atB i) (mB' D i)).rho 8 = cellI (D.blk i).pre 0 := rfl
      have e9 : (fnB w D (atB i) (mB' D i)).rho 9 = cellI (D.blk i).pre 1 := rfl
      have eb : brN.num (fnB w D (atB i) (mB' D i)).rho = (decide (cellI (D.blk i).pre 0 = 2) && !decide (cellI (D.blk i).pre 1 = 1)) := by
        show ((decide (_ = (2 : Int)) && true) && !(decide (_ = (1 : Int)) && true)) = _
        rw [e8, e9, Bool.and_true, Bool.and_true]
      have ec : caN.num (fnB w D (atB i) (mB' D i)).rho = decide (cellI (D.blk i).pre 0 = 4) := by
        show (decide (_ = (4 : Int)) && true) = _
        rw [e8, Bool.and_true]
      have rn : ∀ b G, (rowsB (D.blk (i + 1)) (Ct.at D (i + 1)))[b]? = some G → ∀ j, j < 16 → (fnB w D (atB (i + 1)) (mB' D (i + 1))).rho (nm b j) = G j := fun b G e j hj => fn_row e hj
      have hsucc := at_succ (D := D) hi
      have jr := fun j => jmp_row h (D.blk i) ((Ct.at D i).stm (D.blk i).st) j
      rcases List.mem_cons.1 hu with rfl | hu
      · exact isU_ok fun r v hv => hv
      refine ups_app (pickU_ok fun j hj => ?_) (ups_app (pickU_ok fun j hj => ?_) (ups_app (pickU_ok fun j hj => ?_) (sameB16_ok fun j hj => ?_))) u hu
      · simp only [List.map_cons, List.map_nil, List.headD_cons, List.drop_succ_cons, List.drop_zero]
        rw [eb, ec, rn 0 _ rfl j hj, hsucc]
        show _ = (((Ct.at D i).stm (D.blk i).st).jmp (D.blk i)).a j
        rw [(jr j).1]
        cases (decide (cellI (D.blk i).pre 0 = 2) && !decide (cellI (D.blk i).pre 1 = 1)) with
        | true => exact blk_row h (i := i) (b := 8) rfl hj
        | false => cases decide (cellI (D.blk i).pre 0 = 4) with
          | true => exact blk_row h (i := i) (b := 10) rfl hj
          | false => exact blk_row h (i := i) (b := 4) rfl hj
      · simp only [List.map_cons, List.map_nil, List.headD_cons]
        rw [ec, rn 1 _ rfl j hj, hsucc]
        show _ = (((Ct.at D i).stm (D.blk i).st).jmp (D.blk i)).p j
        rw [(jr j).2.1]
        cases decide (cellI (D.blk i).pre 0 = 4) with
        | true => exact blk_row h (i := i) (b := 11) rfl hj
        | false => exact blk_row h (i := i) (b := 5) rfl hj
      · rw [rn 2 _ rfl j hj, hsucc]
        show _ = (((Ct.at D i).stm (D.blk i).st).jmp (D.blk i)).s j
        rw [(jr j).2.2.1]
        exact blk_row h (i := i) (b := 6) rfl hj
      · rw [rn 3 _ rfl j hj, hsucc]
        show _ = b2i ((((Ct.at D i).stm (D.blk i).st).jmp (D.blk i)).i j)
        rw [(jr j).2.2.2]
        exact blk_row h (i := i) (b := 7) (G := fun j => b2i (((Ct.at D i).stm (D.blk i).st).i j)) rfl hj
    · simp only [List.mem_cons, List.not_mem_nil, or_false] at hp
      rcases hp with rfl | rfl
      · exact row_code tagI (rI i hi K ok)
      · exact absurd e hfO
  · refine turn_fn stopO (rig_plain (tabF_ok h _ _)) (agree_fn _ _ _ _) (L := LO0) ?_ (fnFx_ok D _ _) (fun p hp => by cases hp) (fun u hu => ?_) rfl (no_loopN f codeO)
    · exact (start0 h (atB D.bs.length) (fits_B (by omega)) _).pin (i := 6) (c := 0) (show b2i (decide ((D.bs.length : Int) < D.bs.length)) = 0 by rw [decide_eq_false (by omega)]; rfl)
    · have e : Ct.at D D.bs.length = Ct.fn D := by unfold Ct.at Ct.fn; rw [List.take_length]
      have rr : ∀ b G, (rowsB (D.blk D.bs.length) (Ct.at D D.bs.length))[b]? = some G → ∀ j, j < 16 → (fnB w D (atB D.bs.length) (mB' D D.bs.length)).rho (nm b j) = G j := fun b G e j hj => fn_row e hj
      have r2 : ∀ b G, [(Ct.fn D).a, (Ct.fn D).p, (Ct.fn D).s, fun j => b2i ((Ct.fn D).i j)][b]? = some G → ∀ j, j < 16 → (fnB w D (atB 0) (mF D)).rho (nm b j) = G j := fun b G e j hj => by
        have := fn_row (D := D) (q := atB 0) (tail := []) e hj
        rwa [List.append_nil] at this
      rw [e] at rr
      refine ups_app (pickU_ok fun j hj => ?_) (ups_app (pickU_ok fun j hj => ?_) (ups_app (pickU_ok fun j hj => ?_) (sameB16_ok fun j hj => ?_))) u hu
      · exact (rr 0 _ rfl j hj).trans (r2 0 _ rfl j hj).symm
      · exact (rr 1 _ rfl j hj).trans (r2 1 _ rfl j hj).symm
      · exact (rr 2 _ rfl j hj).trans (r2 2 _ rfl j hj).symm
      · exact (rr 3 _ rfl j hj).trans (r2 3 _ rfl j hj).symm
end
end Go.Proofs.YthdcahkedlijpaaGreat.twos
