/- Whether a function is well made: fnshape.made. -/
import Derived.Test.YthdcahkedlijpaaGreatFn4
namespace Go.Proofs.YthdcahkedlijpaaGreat.made
open Go.RowKit Go.Proofs.YthdcahkedlijpaaGreat.Am
set_option maxRecDepth 100000
set_option linter.unusedVariables false
set_option linter.unusedSectionVars false
theorem tagI2 : tagsOk (F.body.getD .skip) 1 8 = true := by kernel_rfl
theorem take_all {α : Type} (l : List α) (d : α) (p : α → Bool) {k : Nat} (hk : k < l.length) : (l.take (k + 1)).all p = ((l.take k).all p && p (l.getD k d)) := by
  rw [List.take_succ_eq_append_getElem hk, List.all_append, List.getD_eq_getElem?_getD, List.getElem?_eq_getElem hk]
  simp
theorem b2i_one (b : Bool) : b2i b = 1 ↔ b = true := by cases b <;> decide
theorem dec_b2i (b : Bool) : decide (b2i b = 1) = b := by cases b <;> rfl
theorem in_bits (l : List Bool) : All2 InI (List.replicate l.length ivB) (l.map b2i) := by
  induction l with
  | nil => trivial
  | cons b l ih => exact ⟨in_b b, ih⟩
theorem xe_is {b1 b2 : Base} {i j : Nat} (e : b1.rho i = b2.rho j) : UpdOk b1 b2 (isU (.xe [(j, 1)]) (.xe [(i, 1)])) := by
  intro r v hv
  have hv : v = .bool (decide (b1.rho i = 1) || false) := hv
  show v = .bool (decide (b2.rho j = 1) || false)
  rw [hv, e]
def jumpF (nL nB : Int) (b : BlkD) : Bool :=
  (!decide (cellI b.pre 0 = 2) || (decide (cellI b.pre 1 = 1) || decide (cellI b.pre 3 < nL))) && ((!decide (cellI b.pre 0 = 4) || (decide (cellI b.post 0 < nL) && b.ops.all (opNear nL))) &&
  ((decide (cellI b.pre 0 = 3) || decide (cellI b.pre 0 = 5) || decide (cellI b.pre 7 < nB)) && (!decide (cellI b.pre 0 = 2) || (decide (cellI b.pre 7 = cellI b.pre 8) || decide (cellI b.pre 8 < nB)))))
def outB (nL nB : Int) (b : BlkD) : Bool := b.st.all (nearS nL) && jumpF nL nB b
def okB (b : BlkD) : Bool := b.st.all (fun st => okStE.val st) && okJF b
def madeF (D : FnD) : Bool := head.headF D && (decide (0 < D.bs.length) && (D.bs.all okB && D.bs.all (outB D.ls.length D.bs.length)))
theorem bool_out (a s e2 e4 e3 e5 a1 al d o t72 t73 t74 : Bool) (h24 : e2 = true → e4 = false) (x : Bool) (hx : x = ((a && s) && d && o)) :
    ((!e2 || ((a && s) && (a1 || al))) && ((!e4 || x) && ((!(!e2 && !e4) || (a && s)) && ((!(!(e3 || e5)) || t72) && (!e2 || (t74 || t73)))))) = (a && (s && ((!e2 || (a1 || al)) && ((!e4 || (d && o)) && ((e3 || e5 || t72) && (!e2 || (t74 || t73))))))) := by
  subst hx
  cases e2
  · cases e4 <;> cases a <;> cases s <;> cases d <;> cases o <;> cases e3 <;> cases e5 <;> cases t72 <;> rfl
  · rw [h24 rfl]
    cases a <;> cases s <;> cases a1 <;> cases al <;> cases e3 <;> cases e5 <;> cases t72 <;> cases t74 <;> cases t73 <;> rfl
section
variable {w : World} {v : Value} {D : FnD} (h : FnOk' w v D)
include h
theorem start {q : At} (hq : Fits D q) (l : List Bool) (i : q.i < D.bs.length) : ((Lf.of (fnIv ++ List.replicate l.length ivB)).pin 6 1).Holds (xsAt (fnXs D q (l.map b2i))) (fun _ => []) := by
  have := fn_start h hq (in_bits l) (m2 := []) (fun _ => [])
  rw [List.append_nil] at this
  exact this.pin (i := 6) (c := 1) (show b2i (decide ((q.i : Int) < D.bs.length)) = 1 from (one_iff _).2 (by omega))
def nearK (D : FnD) (i k : Nat) : Bool := ((D.blk i).st.take k).all (nearS D.ls.length)
theorem near_at {q : At} (r : Bool) : nearN.num (xsAt (fnXs D q [b2i r])) = (r && nearS D.ls.length (D.stm q.i q.k)) := by
  show ((decide (xsAt (fnXs D q [b2i r]) 77 = 1) && true) && (nearE.ren toS).num (xsAt (fnXs D q [b2i r]))) = _
  rw [near_num, show xsAt (fnXs D q [b2i r]) 77 = b2i r from fn_more 0, dec_b2i, Bool.and_true]
def atS (i k : Nat) : At := ⟨i, k, 0, 0⟩
def mkS (D : FnD) (r : Bool) (i k : Nat) : List Int := [b2i (r && nearK D i k)]
theorem inner (r : Bool) {q : At} {m : List Int} (hm : xsAt m 0 = b2i r) (hi : q.i < D.bs.length) (hB : D.bs.length ≤ 1000) (hS : (D.blk q.i).st.length ≤ 1000) :
    (((D.blk q.i).st.all fun st => okStE.val st) = true → xsAt m 1 = b2i (r && (D.blk q.i).st.all (nearS D.ls.length)) → ∀ K (ok : KnowOk K (fnB w D q m).rho (fnB w D q m).sig), @LoopOk ((fnB w D q m).withK K ok) Tryz.prog (rowI (.exit 2) sNI K) codeI) ∧
    (((D.blk q.i).st.all fun st => okStE.val st) = false → ∀ K (ok : KnowOk K (fnB w D q m).rho (fnB w D q m).sig), @LoopOk ((fnB w D q m).withK K ok) Tryz.prog (rowI .ret sRI K) codeI) := by
  have fit : ∀ k, k ≤ (D.blk q.i).st.length → Fits D (atS q.i k) := fun k hk => fits_small ⟨by show q.i ≤ 1000; omega, by show k ≤ 1000; omega, Nat.zero_le _, Nat.zero_le _⟩
  have st := fun k hk => start h (fit k hk) [r && nearK D q.i k] hi
  have us : ∀ u ∈ usI, UpdOk (fnB w D q m) (fnB w D (atS q.i 0) (mkS D r q.i 0)) u := fun u hu => by
    simp only [usI, List.mem_cons, List.not_mem_nil, or_false] at hu
    rcases hu with rfl | rfl
    · exact isU_ok fun r v hv => hv
    · refine xe_is ?_
      show xsAt (fnXs D q m) (77 + 0) = xsAt (fnXs D (atS q.i 0) (mkS D r q.i 0)) (77 + 0)
      rw [fn_more, fn_more, hm]
      show b2i r = b2i (r && nearK D q.i 0)
      unfold nearK
      simp
  have rig : ∀ k, k < (D.blk q.i).st.length → ∀ b, okStE.val (D.stm q.i k) = b → RigOk Tryz.prog (rigP (libS b) tbI noLoops) (fnB w D (atS q.i k) (mkS D r q.i k)) := fun k hk b hb =>
    rig_ok (row_stm h ⟨_, Tryz.func70, by kernel_rfl, by kernel_rfl⟩ stA_tests vm8 (q := atS q.i k) hi hk hb _) (@tabs_app (fnB w D (atS q.i k) (mkS D r q.i k)) _ _ (tabF_ok h _ _) (@tabs_app (fnB w D (atS q.i k) (mkS D r q.i k)) _ _ (tabB_ok h (q := atS q.i k) hi _) (tabS_ok h (q := atS q.i k) hi hk _))) no_loops
  have pin1 : ∀ k, k < (D.blk q.i).st.length → L1.Holds (xsAt (fnXs D (atS q.i k) (mkS D r q.i k))) (fun _ => []) := fun k hk => (st k (by omega)).pin (i := 23) (c := 1) (show b2i (decide ((k : Int) < (D.blk q.i).st.length)) = 1 from (one_iff _).2 (by omega))
  have step : ∀ k, k < (D.blk q.i).st.length → okStE.val (D.stm q.i k) = true → TurnsS Tryz.prog (fnB w D (atS q.i k) (mkS D r q.i k)) (fnB w D (atS q.i (k + 1)) (mkS D r q.i (k + 1))) codeI hdI .normal hdI := fun k hk hok => by
    refine turn_fn stepI (rig k hk true hok) (agree_blk (atS q.i k) (atS q.i (k + 1)) rfl _ _) (pin1 k hk) (fnFx_ok D _ _) (fun p hp => ?_) (fun u hu => ?_) rfl (no_loopN f codeI)
    · obtain rfl := List.mem_singleton.1 hp
      exact (okS_num _ _).trans hok
    · have key : (fnB w D (atS q.i (k + 1)) (mkS D r q.i (k + 1))).rho 77 = 1 ↔ nearN.num (fnB w D (atS q.i k) (mkS D r q.i k)).rho = true := by
        show xsAt (fnXs D (atS q.i (k + 1)) (mkS D r q.i (k + 1))) (77 + 0) = 1 ↔ nearN.num (xsAt (fnXs D (atS q.i k) (mkS D r q.i k))) = true
        rw [fn_more, show E.num (xsAt (fnXs D (atS q.i k) (mkS D r q.i k))) nearN = _ from near_at h (q := atS q.i k) (r && nearK D q.i k)]
        show b2i (r && nearK D q.i (k + 1)) = 1 ↔ _
        rw [b2i_one]
        unfold nearK
        rw [take_all _ [] _ hk, ← Bool.and_assoc]
        exact Iff.rfl
      simp only [List.mem_cons, List.not_mem_nil, or_false] at hu
      rcases hu with rfl | rfl | rfl
      · exact isU_ok fun r v hv => hv
      · exact bitU_ok key
      · exact keepU_ok key
  constructor
  · intro hall hm1 K ok
    have hall := (all_at (D.blk q.i).st [] fun st => okStE.val st).2 hall
    refine @roundsU_ok _ _ (fun k => fnB w D (atS q.i k) (mkS D r q.i k)) codeI _ _ hdI _ _ (fun e => by cases e) (D.blk q.i).st.length (agree_blk q (atS q.i 0) rfl _ _) us (fun k hk => step k hk (hall k hk)) ?_ 8 K ok
    refine turn_fn stopI (rig_plain (@tabs_app (fnB w D (atS q.i _) (mkS D r q.i _)) _ _ (tabF_ok h _ _) (tabB_ok h (q := atS q.i _) hi _))) (agree_blk (atS q.i (D.blk q.i).st.length) q rfl _ _) (L := L3) ?_ (fnFx_ok D _ _) (fun p hp => by cases hp) (fun u hu => ?_) rfl (no_loopN f codeI)
    · exact (st _ (Nat.le_refl _)).pin (i := 23) (c := 0) (show b2i (decide (((D.blk q.i).st.length : Int) < (D.blk q.i).st.length)) = 0 by rw [decide_eq_false (by omega)]; rfl)
    · obtain rfl := List.mem_singleton.1 hu
      refine xe_is ?_
      show xsAt (fnXs D (atS q.i (D.blk q.i).st.length) (mkS D r q.i (D.blk q.i).st.length)) (77 + 0) = xsAt (fnXs D q m) (77 + 1)
      rw [fn_more, fn_more, hm1]
      show b2i (r && nearK D q.i (D.blk q.i).st.length) = _
      unfold nearK
      rw [List.take_length]
  · intro hbad K ok
    rcases first_not (fun k => okStE.val (D.stm q.i k)) (D.blk q.i).st.length with hall | ⟨N, hN, h0, hn⟩
    · rw [(all_at (D.blk q.i).st [] fun st => okStE.val st).1 hall] at hbad
      cases hbad
    · refine @roundsU_ok _ _ (fun k => fnB w D (atS q.i k) (mkS D r q.i k)) codeI _ _ hdI _ _ (fun e => by cases e) N (agree_blk q (atS q.i 0) rfl _ _) us (fun k hk => step k (by omega) (h0 k hk)) ?_ 8 K ok
      exact turn_fn badI (rig N hN false hn) (agree_blk (atS q.i N) q rfl _ _) (pin1 N hN) (fnFx_ok D _ _) (fun p hp => by cases hp) (fun u hu => by cases hu) rfl (no_loopN f codeI)
def atM (i m : Nat) : At := ⟨i, 0, m, 0⟩
def destB (D : FnD) (r : Bool) (i : Nat) : Bool := r && decide (cellI (D.blk i).post 0 < D.ls.length)
def opsK (D : FnD) (i m : Nat) : Bool := ((D.blk i).ops.take m).all (opNear D.ls.length)
def mkM (D : FnD) (r : Bool) (i m : Nat) : List Int := [b2i (destB D r i && opsK D i m)]
theorem args (r : Bool) {q : At} {m : List Int} (h78 : xsAt m 1 = b2i r) (h79 : xsAt m 2 = b2i ((r && decide (cellI (D.blk q.i).post 0 < D.ls.length)) && (D.blk q.i).ops.all (opNear D.ls.length))) (hi : q.i < D.bs.length) (hB : D.bs.length ≤ 1000) (hA : (D.blk q.i).ops.length ≤ 1000) :
    ∀ K (ok : KnowOk K (fnB w D q m).rho (fnB w D q m).sig), @LoopOk ((fnB w D q m).withK K ok) Tryz.prog (rowA K) codeA := by
  intro K ok
  have fit : ∀ k, k ≤ (D.blk q.i).ops.length → Fits D (atM q.i k) := fun k hk => fits_small ⟨by show q.i ≤ 1000; omega, Nat.zero_le _, by show k ≤ 1000; omega, Nat.zero_le _⟩
  have st := fun k hk => start h (fit k hk) [destB D r q.i && opsK D q.i k] hi
  have r78 : (fnB w D q m).rho 78 = b2i r := (fn_more (D := D) (q := q) (more := m) 1).trans h78
  have r70 : (fnB w D q m).rho 70 = b2i (decide (cellI (D.blk q.i).post 0 < D.ls.length)) := rfl
  have r0 : (fnB w D (atM q.i 0) (mkM D r q.i 0)).rho 77 = b2i (destB D r q.i) := by
    refine (fn_more (D := D) (q := atM q.i 0) (more := mkM D r q.i 0) 0).trans ?_
    show b2i (destB D r q.i && opsK D q.i 0) = b2i (destB D r q.i)
    simp [opsK]
  have us : ∀ u ∈ usA, UpdOk (fnB w D q m) (fnB w D (atM q.i 0) (mkM D r q.i 0)) u := fun u hu => by
    simp only [usA, List.mem_cons, List.not_mem_nil, or_false] at hu
    rcases hu with rfl | rfl | rfl
    · exact isU_ok fun r v hv => hv
    · intro r' v hv
      have hv : @VS (fnB w D q m) r' (bif (decide ((fnB w D q m).rho 78 = 1) && true) then .xe [(70, 1)] else .bool false) v := hv
      rw [r78, dec_b2i, Bool.and_true] at hv
      show v = .bool (decide ((fnB w D (atM q.i 0) (mkM D r q.i 0)).rho 77 = 1) || false)
      rw [r0, dec_b2i, Bool.or_false]
      cases r with
      | false => exact hv
      | true =>
        have hv : v = .bool (decide ((fnB w D q m).rho 70 = 1) || false) := hv
        rw [hv, r70, dec_b2i, Bool.or_false]
        rfl
    · refine bitU_ok ?_
      show (fnB w D (atM q.i 0) (mkM D r q.i 0)).rho 77 = 1 ↔ ((decide ((fnB w D q m).rho 78 = 1) && true) && (decide ((fnB w D q m).rho 70 = 1) && true)) = true
      rw [r0, r78, r70, dec_b2i, dec_b2i, b2i_one, Bool.and_true, Bool.and_true]
      exact Iff.rfl
  refine @roundsU_ok _ _ (fun k => fnB w D (atM q.i k) (mkM D r q.i k)) codeA _ _ hdA _ _ (fun e => by cases e) (D.blk q.i).ops.length (agree_blk q (atM q.i 0) rfl _ _) us (fun k hk => ?_) ?_ 2 K ok
  · refine turn_fn stepA (rig_plain (@tabs_app (fnB w D (atM q.i k) (mkM D r q.i k)) _ _ (tabF_ok h _ _) (@tabs_app (fnB w D (atM q.i k) (mkM D r q.i k)) _ _ (tabB_ok h (q := atM q.i k) hi _) (tabA_ok h (q := atM q.i k) hi hk _)))) (agree_blk (atM q.i k) (atM q.i (k + 1)) rfl _ _) (L := L5) ?_ (fnFx_ok D _ _) (fun p hp => by cases hp) (fun u hu => ?_) rfl (no_loopN fO codeA)
    · exact (st k (by omega)).pin (i := 52) (c := 1) (show b2i (decide ((k : Int) < (D.blk q.i).ops.length)) = 1 from (one_iff _).2 (by omega))
    · have key : (fnB w D (atM q.i (k + 1)) (mkM D r q.i (k + 1))).rho 77 = 1 ↔ nearA.num (fnB w D (atM q.i k) (mkM D r q.i k)).rho = true := by
        have e1 : (fnB w D (atM q.i (k + 1)) (mkM D r q.i (k + 1))).rho 77 = b2i (destB D r q.i && opsK D q.i (k + 1)) := fn_more (D := D) (q := atM q.i (k + 1)) (more := mkM D r q.i (k + 1)) 0
        have e2 : (fnB w D (atM q.i k) (mkM D r q.i k)).rho 77 = b2i (destB D r q.i && opsK D q.i k) := fn_more (D := D) (q := atM q.i k) (more := mkM D r q.i k) 0
        have e3 : (fnB w D (atM q.i k) (mkM D r q.i k)).rho 71 = b2i (decide (cellI (D.opd q.i k) 2 < D.ls.length)) := rfl
        have e4 : (fnB w D (atM q.i k) (mkM D r q.i k)).rho 53 = cellI (D.opd q.i k) 0 := rfl
        show (fnB w D (atM q.i (k + 1)) (mkM D r q.i (k + 1))).rho 77 = 1 ↔ ((decide ((fnB w D (atM q.i k) (mkM D r q.i k)).rho 77 = 1) && true) && ((decide ((fnB w D (atM q.i k) (mkM D r q.i k)).rho 53 = 1) && true) || (decide ((fnB w D (atM q.i k) (mkM D r q.i k)).rho 71 = 1) && true))) = true
        rw [e1, e2, e3, e4, b2i_one, dec_b2i, dec_b2i, Bool.and_true, Bool.and_true, Bool.and_true]
        show (destB D r q.i && ((D.blk q.i).ops.take (k + 1)).all (opNear D.ls.length)) = true ↔ _
        rw [take_all _ [] _ hk, ← Bool.and_assoc]
        exact Iff.rfl
      simp only [List.mem_cons, List.not_mem_nil, or_false] at hu
      rcases hu with rfl | rfl | rfl
      · exact isU_ok fun r v hv => hv
      · exact bitU_ok key
      · exact keepU_ok key
  · refine turn_fn stopA (rig_plain (@tabs_app (fnB w D (atM q.i _) (mkM D r q.i _)) _ _ (tabF_ok h _ _) (tabB_ok h (q := atM q.i _) hi _))) (agree_blk (atM q.i (D.blk q.i).ops.length) q rfl _ _) (L := L6) ?_ (fnFx_ok D _ _) (fun p hp => by cases hp) (fun u hu => ?_) rfl (no_loopN fO codeA)
    · exact (st _ (Nat.le_refl _)).pin (i := 52) (c := 0) (show b2i (decide (((D.blk q.i).ops.length : Int) < (D.blk q.i).ops.length)) = 0 by rw [decide_eq_false (by omega)]; rfl)
    · obtain rfl := List.mem_singleton.1 hu
      refine xe_is ?_
      show xsAt (fnXs D (atM q.i (D.blk q.i).ops.length) (mkM D r q.i (D.blk q.i).ops.length)) (77 + 0) = xsAt (fnXs D q m) (77 + 2)
      rw [fn_more, fn_more, h79]
      show b2i (destB D r q.i && ((D.blk q.i).ops.take (D.blk q.i).ops.length).all (opNear D.ls.length)) = _
      rw [List.take_length]
      rfl
def outK (D : FnD) (i : Nat) : Bool := (D.bs.take i).all (outB D.ls.length D.bs.length)
def bitsO (D : FnD) (r : Bool) (i : Nat) : List Bool :=
  let a := r && outK D i
  let b := a && (D.blk i).st.all (nearS D.ls.length)
  [a, b, (b && decide (cellI (D.blk i).post 0 < D.ls.length)) && (D.blk i).ops.all (opNear D.ls.length)]
theorem out_num (r : Bool) (i : Nat) (hi : i < D.bs.length) : outE.num (xsAt (fnXs D (atB i) ((bitsO D r i).map b2i))) = (r && outK D (i + 1)) := by
  have e78 : xsAt (fnXs D (atB i) ((bitsO D r i).map b2i)) 78 = b2i ((r && outK D i) && (D.blk i).st.all (nearS D.ls.length)) := fn_more (D := D) (q := atB i) 1
  have e79 : xsAt (fnXs D (atB i) ((bitsO D r i).map b2i)) 79 = b2i ((((r && outK D i) && (D.blk i).st.all (nearS D.ls.length)) && decide (cellI (D.blk i).post 0 < D.ls.length)) && (D.blk i).ops.all (opNear D.ls.length)) := fn_more (D := D) (q := atB i) 2
  have e8 : xsAt (fnXs D (atB i) ((bitsO D r i).map b2i)) 8 = cellI (D.blk i).pre 0 := rfl
  have e9 : xsAt (fnXs D (atB i) ((bitsO D r i).map b2i)) 9 = cellI (D.blk i).pre 1 := rfl
  have e69 : xsAt (fnXs D (atB i) ((bitsO D r i).map b2i)) 69 = b2i (decide (cellI (D.blk i).pre 3 < D.ls.length)) := rfl
  have e72 : xsAt (fnXs D (atB i) ((bitsO D r i).map b2i)) 72 = b2i (decide (cellI (D.blk i).pre 7 < D.bs.length)) := rfl
  have e73 : xsAt (fnXs D (atB i) ((bitsO D r i).map b2i)) 73 = b2i (decide (cellI (D.blk i).pre 8 < D.bs.length)) := rfl
  have e74 : xsAt (fnXs D (atB i) ((bitsO D r i).map b2i)) 74 = b2i (decide (cellI (D.blk i).pre 7 = cellI (D.blk i).pre 8)) := rfl
  unfold outK
  rw [take_all _ b0 _ hi, ← Bool.and_assoc]
  show _ = ((r && outK D i) && ((D.blk i).st.all (nearS D.ls.length) && jumpF D.ls.length D.bs.length (D.blk i)))
  unfold jumpF
  simp only [outE, ands, imp, isE, E.num, List.all_cons, List.all_nil, Bool.and_true, e78, e79, e8, e9, e69, e72, e73, e74, dec_b2i]
  exact bool_out _ _ _ _ _ _ _ _ _ _ _ _ _ (fun e => by have := of_decide_eq_true e; exact decide_eq_false (by omega)) _ rfl
def mkO (D : FnD) (r : Bool) (i : Nat) : List Int := (bitsO D r i).map b2i
theorem outer (r : Bool) {m : List Int} (h77 : ∀ b0 : Base, True) (hB : D.bs.length ≤ 1000) (hS : ∀ b ∈ D.bs, b.st.length ≤ 1000 ∧ (okJF b = true → b.ops.length ≤ 1000)) :
    (D.bs.all okB = true → xsAt m 1 = b2i (r && D.bs.all (outB D.ls.length D.bs.length)) → ∀ K (ok : KnowOk K (fnB w D (atB 0) m).rho (fnB w D (atB 0) m).sig), @LoopOk ((fnB w D (atB 0) m).withK K ok) Tryz.prog (rowM r (.exit 0) sNO K) codeO) ∧
    (D.bs.all okB = false → ∀ K (ok : KnowOk K (fnB w D (atB 0) m).rho (fnB w D (atB 0) m).sig), @LoopOk ((fnB w D (atB 0) m).withK K ok) Tryz.prog (rowM r .ret sRO K) codeO) := by
  have mem : ∀ i, i < D.bs.length → D.blk i ∈ D.bs := fun i hi => by
    unfold FnD.blk
    rw [List.getD_eq_getElem?_getD, List.getElem?_eq_getElem hi]
    exact List.getElem_mem hi
  have L7h : ∀ i, i < D.bs.length → L7.Holds (xsAt (fnXs D (atB i) (mkO D r i))) (fun _ => []) := fun i hi => start h (fits_B (by omega)) (bitsO D r i) hi
  have us : ∀ u ∈ [isU (.xi .i64 4) (.int .i64 0), isU R (.bool r)], UpdOk (fnB w D (atB 0) m) (fnB w D (atB 0) (mkO D r 0)) u := fun u hu => by
    simp only [List.mem_cons, List.not_mem_nil, or_false] at hu
    rcases hu with rfl | rfl
    · exact isU_ok fun r v hv => hv
    · intro r' v hv
      have hv : v = .bool r := hv
      have e : (fnB w D (atB 0) (mkO D r 0)).rho 77 = b2i r := by
        refine (fn_more (D := D) (q := atB 0) (more := mkO D r 0) 0).trans ?_
        show b2i (r && outK D 0) = b2i r
        simp [outK]
      show v = .bool (decide ((fnB w D (atB 0) (mkO D r 0)).rho 77 = 1) || false)
      rw [e, dec_b2i, hv, Bool.or_false]
  have tb : ∀ i, i < D.bs.length → @TabsOk (fnB w D (atB i) (mkO D r i)) tbO := fun i hi => @tabs_app (fnB w D (atB i) (mkO D r i)) _ _ (tabF_ok h _ _) (tabB_ok h (q := atB i) hi _)
  have x0 : ∀ i, xsAt (mkO D r i) 0 = b2i (r && outK D i) := fun i => rfl
  have x1 : ∀ i, xsAt (mkO D r i) 1 = b2i ((r && outK D i) && (D.blk i).st.all (nearS D.ls.length)) := fun i => rfl
  have x2 : ∀ i, xsAt (mkO D r i) 2 = b2i ((((r && outK D i) && (D.blk i).st.all (nearS D.ls.length)) && decide (cellI (D.blk i).post 0 < D.ls.length)) && (D.blk i).ops.all (opNear D.ls.length)) := fun i => rfl
  have inn := fun i (hi : i < D.bs.length) => inner h (r && outK D i) (q := atB i) (m := mkO D r i) (x0 i) hi hB (hS _ (mem i hi)).1
  have hfO : fO ≠ f := by decide
  -- rows of a round: statements well, arguments
  have rowsOk : ∀ i, i < D.bs.length → ((D.blk i).st.all fun st => okStE.val st) = true → (okJF (D.blk i) = true ∨ True) → ∀ b, okJF (D.blk i) = b → (b = true → (D.blk i).ops.length ≤ 1000) → b = true →
      RigOk Tryz.prog (rigP (libJ b) tbO rowsO) (fnB w D (atB i) (mkO D r i)) := fun i hi hs _ b hb hl hbt => by
    refine rig_ok (row_jmp h ⟨_, Tryz.func87, by kernel_rfl, by kernel_rfl⟩ jA_tests vm8 (q := atB i) hi hb _) (tb i hi) (rows_ok fun K ok p hp => ?_)
    simp only [List.mem_cons, List.not_mem_nil, or_false] at hp
    rcases hp with rfl | rfl
    · exact ⟨F, Tryz.func45, fun c hc => row_fn tagI2 ((inn i hi).1 hs (x1 i) K ok) hc⟩
    · exact ⟨FO, Tryz.func91, fun c hc => row_fn tagA (args h ((r && outK D i) && (D.blk i).st.all (nearS D.ls.length)) (q := atB i) (m := mkO D r i) (x1 i) (x2 i) hi hB (hl hbt) K ok) hc⟩
  have step : ∀ i, i < D.bs.length → okB (D.blk i) = true → TurnsS Tryz.prog (fnB w D (atB i) (mkO D r i)) (fnB w D (atB (i + 1)) (mkO D r (i + 1))) codeO hdO .normal hdO := fun i hi hok => by
    unfold okB at hok
    rw [Bool.and_eq_true] at hok
    have hl := (hS _ (mem i hi)).2
    refine turn_fn stepO (rowsOk i hi hok.1 (.inr trivial) true hok.2 (fun _ => hl hok.2) rfl) (agree_fn _ _ _ _) (L7h i hi) (fnFx_ok D _ _) (fun p hp => by cases hp) (fun u hu => ?_) rfl (fun K ok => code_rows (F := F) (cc := codeO) fun p hp e => ?_)
    · have key : (fnB w D (atB (i + 1)) (mkO D r (i + 1))).rho 77 = 1 ↔ outE.num (fnB w D (atB i) (mkO D r i)).rho = true := by
        have e1 : (fnB w D (atB (i + 1)) (mkO D r (i + 1))).rho 77 = b2i (r && outK D (i + 1)) := fn_more (D := D) (q := atB (i + 1)) (more := mkO D r (i + 1)) 0
        rw [e1, show outE.num (fnB w D (atB i) (mkO D r i)).rho = _ from out_num h r i hi, b2i_one]
      simp only [List.mem_cons, List.not_mem_nil, or_false] at hu
      rcases hu with rfl | rfl | rfl | rfl
      · exact isU_ok fun r v hv => hv
      · exact bitU_ok key
      · exact keepU_ok key
      · exact keepU_ok key
    · simp only [List.mem_cons, List.not_mem_nil, or_false] at hp
      rcases hp with rfl | rfl
      · exact row_code tagI ((inn i hi).1 hok.1 (x1 i) K ok)
      · exact absurd e hfO
  constructor
  · intro hall hm K ok
    have hall := (all_at D.bs b0 okB).2 hall
    refine @roundsU_ok _ _ (fun i => fnB w D (atB i) (mkO D r i)) codeO _ _ hdO _ _ (fun e => by cases e) D.bs.length (agree_fn _ _ _ _) us (fun k hk => step k hk (hall k hk)) ?_ 5 K ok
    refine turn_fn stopO (rig_plain (tabF_ok h _ _)) (agree_fn _ _ _ _) (L := L8) ?_ (fnFx_ok D _ _) (fun p hp => by cases hp) (fun u hu => ?_) rfl (no_loopN f codeO)
    · have := fn_start h (q := atB D.bs.length) (fits_B (by omega)) (in_bits [r && outK D D.bs.length]) (m2 := [xsAt (mkO D r D.bs.length) 1, xsAt (mkO D r D.bs.length) 2]) (fun _ => [])
      exact this.pin (i := 6) (c := 0) (show b2i (decide ((D.bs.length : Int) < D.bs.length)) = 0 by rw [decide_eq_false (by omega)]; rfl)
    · obtain rfl := List.mem_singleton.1 hu
      refine xe_is ?_
      show xsAt (fnXs D (atB D.bs.length) (mkO D r D.bs.length)) (77 + 0) = xsAt (fnXs D (atB 0) m) (77 + 1)
      rw [fn_more, fn_more, hm, x0]
      unfold outK
      rw [List.take_length]
  · intro hbad K ok
    rcases first_not (fun i => okB (D.blk i)) D.bs.length with hall | ⟨N, hN, h0, hn⟩
    · rw [(all_at D.bs b0 okB).1 hall] at hbad
      cases hbad
    · refine @roundsU_ok _ _ (fun i => fnB w D (atB i) (mkO D r i)) codeO _ _ hdO _ _ (fun e => by cases e) N (agree_fn _ _ _ _) us (fun k hk => step k (by omega) (h0 k hk)) ?_ 5 K ok
      have hn : okB (D.blk N) = false := hn
      unfold okB at hn
      cases hs : ((D.blk N).st.all fun st => okStE.val st) with
      | false =>
        refine turn_fn badSO (rig_ok lib_none (tb N hN) (rows_ok (T := fun K => [(f, rowI .ret sRI K)]) fun K ok p hp => ?_)) (agree_fn _ _ _ _) (L7h N hN) (fnFx_ok D _ _) (fun p hp => by cases hp) (fun u hu => by cases hu) rfl (fun K ok => code_rows (F := F) (cc := codeO) fun p hp e => ?_)
        · obtain rfl := List.mem_singleton.1 hp
          exact ⟨F, Tryz.func45, fun c hc => row_fn tagI2 ((inn N hN).2 hs K ok) hc⟩
        · obtain rfl := List.mem_singleton.1 hp
          exact row_code tagI ((inn N hN).2 hs K ok)
      | true =>
        rw [hs, Bool.true_and] at hn
        refine turn_fn badJO (rig_ok (row_jmp h ⟨_, Tryz.func87, by kernel_rfl, by kernel_rfl⟩ jA_tests vm8 (q := atB N) hN hn _) (tb N hN) (rows_ok (T := fun K => [(f, rowI (.exit 2) sNI K)]) fun K ok p hp => ?_)) (agree_fn _ _ _ _) (L7h N hN) (fnFx_ok D _ _) (fun p hp => by cases hp) (fun u hu => by cases hu) rfl (fun K ok => code_rows (F := F) (cc := codeO) fun p hp e => ?_)
        · obtain rfl := List.mem_singleton.1 hp
          exact ⟨F, Tryz.func45, fun c hc => row_fn tagI2 ((inn N hN).1 hs (x1 N) K ok) hc⟩
        · obtain rfl := List.mem_singleton.1 hp
          exact row_code tagI ((inn N hN).1 hs (x1 N) K ok)
end
end Go.Proofs.YthdcahkedlijpaaGreat.made
