/- What the reference's block answers. What the reference's Made answers. -/
import Derived.Test.YthdcahkedlijpaaGreatFn18
namespace Go.Proofs.YthdcahkedlijpaaGreat.block
open Go.RowKit Go.Proofs.YthdcahkedlijpaaGreat.Am
set_option maxRecDepth 100000
set_option linter.unusedVariables false
set_option linter.unusedSectionVars false
def mR (G : Nat → Int) : List Int := rows16 [G] ++ []
def okS (D : FnD) (st : List Value) : Bool := okStE.val st && !far.farF (twos.occS st) D.ls.length
def ledB (nB : Int) (b : BlkD) : Bool := (decide (cellI b.pre 0 = 3) || decide (cellI b.pre 0 = 5)) || (decide (cellI b.pre 7 < nB) && (!decide (cellI b.pre 0 = 2) || (decide (cellI b.pre 7 = cellI b.pre 8) || decide (cellI b.pre 8 < nB))))
def okB (D : FnD) (b : BlkD) : Bool := b.st.all (okS D) && (okJF b && (!far.farF (occJump.occJ b) D.ls.length && ledB D.bs.length b))
theorem occS_in (st : List Value) : ∀ j, -9223372036854775808 ≤ twos.occS st j ∧ twos.occS st j ≤ 9223372036854775807 := fun j => by
  have := twos.occ_le st j
  omega
theorem occJ_in (b : BlkD) (hl : b.ops.length ≤ 1000) : ∀ j, 0 ≤ occJump.occJ b j ∧ occJump.occJ b j ≤ 1001 := fun j => by
  have h1 := occJump.acc_b b.ops
  have h2 := bump_b (F := occJump.accA b) (l := cellI b.post 0) (M := b.ops.length) h1 j
  have h3 := bump_b (F := occurs.o0) (l := cellI b.pre 3) (M := 0) (fun j => ⟨Int.le_refl _, Int.le_refl _⟩) j
  have h1 := h1 j
  unfold occJump.occJ
  unfold occJump.accA at h2 ⊢
  split
  · split
    · omega
    · omega
  · split
    · omega
    · omega
section
variable {w : World} {v : Value} {D : FnD} (h : FnOk' w v D)
include h
theorem rowF_ok (q : At) (G : Nat → Int) (hG : ∀ j, -9223372036854775808 ≤ G j ∧ G j ≤ 9223372036854775807) (h1 : 1 ≤ D.ls.length) (h16 : D.ls.length ≤ 16) {b : Bool} (hb : far.farF G D.ls.length = b) (K : Know) (ok : KnowOk K (fnB w D q (mR G)).rho (fnB w D q (mR G)).sig) : @Sound ((fnB w D q (mR G)).withK K ok) Tryz.prog (rF b) := by
  refine @sound_rowG ((fnB w D q (mR G)).withK K ok) _ far.f ⟨_, Tryz.func77, by kernel_rfl, by kernel_rfl⟩ _ _ (by rfl) [ints16 G, .int .i64 D.ls.length] ⟨@cells16_ints ((fnB w D q (mR G)).withK K ok) 0 G (fun j hj => fn_row (D := D) (q := q) (fs := [G]) (tail := []) (b := 0) rfl hj) r0, rfl, trivial⟩ (.bool b) (fun r => vmB _ r b) fun w' hw => ?_
  rw [← hb]
  exact far.far_ans G hG D.ls.length h1 h16 w'
theorem rowO_ok {F : FuncId} (hF : Callable Tryz.prog F) {q : At} {G : Nat → Int} {cs : List S} {u : Value} (hu : All2 (@VA (fnB w D q (mR G)) r0) [.g cs] [u]) (h1 : [A.g cs].all A.oneR = true) (ha : ∀ w', FnOk' w' v D → Answers F [u] w' (ints16 G)) (K : Know) (ok : KnowOk K (fnB w D q (mR G)).rho (fnB w D q (mR G)).sig) : @Sound ((fnB w D q (mR G)).withK K ok) Tryz.prog (rowG F [.g cs] (.a (.g (cells16 0)))) := by
  refine @sound_rowG ((fnB w D q (mR G)).withK K ok) _ F hF _ _ h1 [u] hu (ints16 G) (fun r => @cells16_ints ((fnB w D q (mR G)).withK K ok) 0 G (fun j hj => fn_row (D := D) (q := q) (fs := [G]) (tail := []) (b := 0) rfl hj) r) fun w' hw => ha w' (h.frz hw)
theorem inner {i : Nat} {q : At} {m : List Int} (hq : q.i = i) (hi : i < D.bs.length) (hB : D.bs.length ≤ 1000) (hS : (D.blk i).st.length ≤ 1000) (h1 : 1 ≤ D.ls.length) (h16 : D.ls.length ≤ 16) :
    ((D.blk i).st.all (okS D) = true → ∀ K (ok : KnowOk K (fnB w D q m).rho (fnB w D q m).sig), @LoopOk ((fnB w D q m).withK K ok) Tryz.prog (row (.exit 0) sN K) codeS) ∧
    ((D.blk i).st.all (okS D) = false → ∀ K (ok : KnowOk K (fnB w D q m).rho (fnB w D q m).sig), @LoopOk ((fnB w D q m).withK K ok) Tryz.prog (row .ret sR K) codeS) := by
  let bk : Nat → At := made.atS i
  let mk : Nat → List Int := fun k => mR (twos.occS (D.stm i k))
  have fit : ∀ k, k ≤ (D.blk i).st.length → Fits D (bk k) := fun k hk => fits_small ⟨by show i ≤ 1000; omega, by show k ≤ 1000; omega, Nat.zero_le _, Nat.zero_le _⟩
  have st : ∀ k, k ≤ (D.blk i).st.length → ((Lf.of (fnIv ++ [])).pin 6 1).Holds (xsAt (fnXs D (bk k) (mk k))) (fun _ => []) := fun k hk => (twos.start0 h (bk k) (fit k hk) (mk k)).pin (i := 6) (c := 1) (show b2i (decide ((i : Int) < D.bs.length)) = 1 from (one_iff _).2 (by omega))
  have us : ∀ u ∈ [isU (.xi .i64 21) (.int .i64 0)], UpdOk (fnB w D q m) (fnB w D (bk 0) (mk 0)) u := fun u hu => by
    obtain rfl := List.mem_singleton.1 hu
    exact isU_ok fun r v hv => hv
  have tb : ∀ k, k < (D.blk i).st.length → @TabsOk (fnB w D (bk k) (mk k)) tbI := fun k hk => @tabs_app (fnB w D (bk k) (mk k)) _ _ (tabF_ok h _ _) (@tabs_app (fnB w D (bk k) (mk k)) _ _ (tabB_ok h (q := bk k) hi _) (tabS_ok h (q := bk k) hi hk _))
  have pin1 : ∀ k, k < (D.blk i).st.length → L1.Holds (xsAt (fnXs D (bk k) (mk k))) (fun _ => []) := fun k hk => (st k (by omega)).pin (i := 23) (c := 1) (show b2i (decide ((k : Int) < (D.blk i).st.length)) = 1 from (one_iff _).2 (by omega))
  have pV : ∀ k (hk : k < (D.blk i).st.length) b, okStE.val (D.stm i k) = b → ∀ K (ok : KnowOk K (fnB w D (bk k) (mk k)).rho (fnB w D (bk k) (mk k)).sig), @Sound ((fnB w D (bk k) (mk k)).withK K ok) Tryz.prog (rV b) := fun k hk b e =>
    row_stm h ⟨_, Tryz.func76, by kernel_rfl, by kernel_rfl⟩ stV_tests vmB (q := bk k) hi hk e _
  have pO : ∀ k (hk : k < (D.blk i).st.length), okStE.val (D.stm i k) = true → ∀ K (ok : KnowOk K (fnB w D (bk k) (mk k)).rho (fnB w D (bk k) (mk k)).sig), @Sound ((fnB w D (bk k) (mk k)).withK K ok) Tryz.prog rO := fun k hk e =>
    rowO_ok h ⟨_, Tryz.func54, by kernel_rfl, by kernel_rfl⟩ (occurs.stm_VA h (bk k) _ hi hk) (by rfl) fun w' hw => occurs.occ_ans hw hB hS hi hk e
  have pF : ∀ k (hk : k < (D.blk i).st.length) b, far.farF (twos.occS (D.stm i k)) D.ls.length = b → ∀ K (ok : KnowOk K (fnB w D (bk k) (mk k)).rho (fnB w D (bk k) (mk k)).sig), @Sound ((fnB w D (bk k) (mk k)).withK K ok) Tryz.prog (rF b) := fun k hk b e =>
    rowF_ok h (bk k) _ (occS_in _) h1 h16 e
  have rg : ∀ k (hk : k < (D.blk i).st.length) (l : List Oracle), (∀ K (ok : KnowOk K (fnB w D (bk k) (mk k)).rho (fnB w D (bk k) (mk k)).sig), ∀ o ∈ l, @Sound ((fnB w D (bk k) (mk k)).withK K ok) Tryz.prog o) → RigOk Tryz.prog (rigP (libS l) tbI noLoops) (fnB w D (bk k) (mk k)) := fun k hk l hl =>
    rig_ok (fun K ok => @sound_orcs ((fnB w D (bk k) (mk k)).withK K ok) _ _ (hl K ok)) (tb k hk) no_loops
  have step' : ∀ k, k < (D.blk i).st.length → okS D (D.stm i k) = true → TurnsS Tryz.prog (fnB w D (bk k) (mk k)) (fnB w D (bk (k + 1)) (mk (k + 1))) codeS hd .normal hd := fun k hk hok => by
    unfold okS at hok
    rw [Bool.and_eq_true, Bool.not_eq_true'] at hok
    refine turn_fn step (rg k hk _ fun K ok o ho => ?_) (agree_blk (bk k) (bk (k + 1)) rfl _ _) (pin1 k hk) (fnFx_ok D _ _) (fun p hp => by cases hp) (fun u hu => ?_) rfl (no_loopN f codeS)
    · simp only [List.mem_cons, List.not_mem_nil, or_false] at ho
      rcases ho with rfl | rfl | rfl
      · exact pV k hk true hok.1 K ok
      · exact pO k hk hok.1 K ok
      · exact pF k hk false hok.2 K ok
    · obtain rfl := List.mem_singleton.1 hu
      exact isU_ok fun r v hv => hv
  have rg0 : ∀ k, RigOk Tryz.prog (rigP (libS []) (tabF.app tabB) noLoops) (fnB w D (bk k) (mk k)) := fun k =>
    rig_ok (fun K ok => @sound_orcs ((fnB w D (bk k) (mk k)).withK K ok) _ _ fun o ho => by cases ho) (@tabs_app (fnB w D (bk k) (mk k)) _ _ (tabF_ok h _ _) (tabB_ok h (q := bk k) hi _)) no_loops
  constructor
  · intro hall K ok
    have hall := (all_at (D.blk i).st [] (okS D)).2 hall
    refine @roundsU_ok _ _ (fun k => fnB w D (bk k) (mk k)) codeS _ _ hd _ _ (fun e => by cases e) (D.blk i).st.length (agree_blk q (bk 0) hq _ _) us (fun k hk => step' k hk (hall k hk)) ?_ 3 K ok
    refine turn_fn stop (rg0 _) (agree_blk (bk (D.blk i).st.length) q hq.symm _ _) (L := L3) ?_ (fnFx_ok D _ _) (fun p hp => by cases hp) (fun u hu => by cases hu) rfl (no_loopN f codeS)
    exact (st _ (Nat.le_refl _)).pin (i := 23) (c := 0) (show b2i (decide (((D.blk i).st.length : Int) < (D.blk i).st.length)) = 0 by rw [decide_eq_false (by omega)]; rfl)
  · intro hbad K ok
    rcases first_not (fun k => okS D (D.stm i k)) (D.blk i).st.length with hall | ⟨N, hN, h0, hn⟩
    · rw [(all_at (D.blk i).st [] (okS D)).1 hall] at hbad
      cases hbad
    · refine @roundsU_ok _ _ (fun k => fnB w D (bk k) (mk k)) codeS _ _ hd _ _ (fun e => by cases e) N (agree_blk q (bk 0) hq _ _) us (fun k hk => step' k (by omega) (h0 k hk)) ?_ 3 K ok
      have hn : (okStE.val (D.stm i N) && !far.farF (twos.occS (D.stm i N)) D.ls.length) = false := hn
      cases hv : okStE.val (D.stm i N) with
      | false => exact turn_fn badV (rg N hN _ fun K ok o ho => by obtain rfl := List.mem_singleton.1 ho; exact pV N hN false hv K ok) (agree_blk (bk N) q hq.symm _ _) (pin1 N hN) (fnFx_ok D _ _) (fun p hp => by cases hp) (fun u hu => by cases hu) rfl (no_loopN f codeS)
      | true =>
        rw [hv, Bool.true_and, Bool.not_eq_false'] at hn
        refine turn_fn badF (rg N hN _ fun K ok o ho => ?_) (agree_blk (bk N) q hq.symm _ _) (pin1 N hN) (fnFx_ok D _ _) (fun p hp => by cases hp) (fun u hu => by cases hu) rfl (no_loopN f codeS)
        simp only [List.mem_cons, List.not_mem_nil, or_false] at ho
        rcases ho with rfl | rfl | rfl
        · exact pV N hN true hv K ok
        · exact pO N hN hv K ok
        · exact pF N hN true hn K ok
theorem fxB_ok (q : At) (m : List Int) : FxOk fxB (xsAt (fnXs D q m)) := by
  have h0 := fnFx_ok D q m
  refine ⟨fun i c j hh => (by cases hh), ⟨h0.xt.lf, h0.xt.sm, h0.xt.ld, h0.xt.sr, fun i j d hm => ?_⟩⟩
  rcases List.mem_cons.1 (show (i, j, d) ∈ (16, 15, 74) :: fnFx.xt.eq from hm) with e | hm
  · cases e
    exact (h0.xt.eq 15 16 74 (List.mem_cons_self ..)).trans ⟨fun e => e.symm, fun e => e.symm⟩
  · exact h0.xt.eq i j d hm
theorem blk_VA {i : Nat} (hi : i < D.bs.length) (m : List Int) : All2 (@VA (fnB w D (atB i) m) r0) [.g fnCells, .g blkCells] [v, .agg (D.blk i).cells.toArray] := by
  have hc := blk_cells h hi (atB i) rfl m
  refine ⟨fn_val h (atB i) m r0, ⟨_, rfl, all2_by_nth hc.len fun n x u hx hu => ?_⟩, trivial⟩
  obtain ⟨u', hu', e⟩ := All2.nth hc (n := n) (x := x) (by rw [nth_eq]; exact hx)
  rw [hu] at hu'
  cases hu'
  exact e r0
theorem tg_num {i : Nat} (m : List Int) : tgE.num (xsAt (fnXs D (atB i) m)) = ledB D.bs.length (D.blk i) := by
  have e8 : xsAt (fnXs D (atB i) m) 8 = cellI (D.blk i).pre 0 := rfl
  have e72 : xsAt (fnXs D (atB i) m) 72 = b2i (decide (cellI (D.blk i).pre 7 < D.bs.length)) := rfl
  have e73 : xsAt (fnXs D (atB i) m) 73 = b2i (decide (cellI (D.blk i).pre 8 < D.bs.length)) := rfl
  have e74 : xsAt (fnXs D (atB i) m) 74 = b2i (decide (cellI (D.blk i).pre 7 = cellI (D.blk i).pre 8)) := rfl
  unfold ledB
  simp only [tgE, isE, E.num, List.all_cons, List.all_nil, Bool.and_true, e8, e72, e73, e74, made.dec_b2i]
theorem block_ans {i : Nat} (hi : i < D.bs.length) (hB : D.bs.length ≤ 1000) (hS : (D.blk i).st.length ≤ 1000) (h1 : 1 ≤ D.ls.length) (h16 : D.ls.length ≤ 16) : Answers f [v, .agg (D.blk i).cells.toArray] w (.bool (okB D (D.blk i))) := by
  have hj := jump_is h hi
  let m : List Int := mR (occJump.occJ (D.blk i))
  have inn := inner h (i := i) (q := atB i) (m := m) rfl hi hB hS h1 h16
  have hLB : LB.Holds (xsAt (fnXs D (atB i) m)) (fun _ => []) := (twos.start0 h (atB i) (fits_B (by omega)) m).pin (i := 6) (c := 1) (show b2i (decide ((i : Int) < D.bs.length)) = 1 from (one_iff _).2 (by omega))
  have tb : @TabsOk (fnB w D (atB i) m) (tabF.app tabB) := @tabs_app (fnB w D (atB i) m) _ _ (tabF_ok h _ _) (tabB_ok h (q := atB i) hi _)
  have go : ∀ {l : List Oracle} {x : X} {s1 : St} {es : List E} {g : List Bool → V} {hs : HT} {u : Bool}, autoB (run l x s1 es g) hs LB = true → (∀ K (ok : KnowOk K (fnB w D (atB i) m).rho (fnB w D (atB i) m).sig), @LoopOk ((fnB w D (atB i) m).withK K ok) Tryz.prog (row x s1 K) codeS) →
      (∀ K (ok : KnowOk K (fnB w D (atB i) m).rho (fnB w D (atB i) m).sig), ∀ o ∈ l, @Sound ((fnB w D (atB i) m).withK K ok) Tryz.prog o) → g (es.map (E.num (xsAt (fnXs D (atB i) m)))) = V.s (.bool u) → Answers f [v, .agg (D.blk i).cells.toArray] w (.bool u) := fun {l x s1 es g hs u} hr hl ho e => by
    have hR : RigOk Tryz.prog (rigP (libS l) (tabF.app tabB) fun K => rowsL [(f, row x s1 K)]) (fnB w D (atB i) m) :=
      rig_ok (fun K ok => @sound_orcs ((fnB w D (atB i) m).withK K ok) _ _ (ho K ok)) tb (rows_ok (T := fun K => [(f, row x s1 K)]) fun K ok p hp => by
        obtain rfl := List.mem_singleton.1 hp
        exact ⟨F, Tryz.func52, fun c hc => row_fn tag (hl K ok) hc⟩)
    have := calls_auto (b := fnB w D (atB i) m) (w := w) (Nat.le_refl _) (fun _ _ => rfl) hR hLB (fxB_ok h (atB i) m) (fun p hp => by cases hp) (blk_VA h hi m) hr
    rw [show (fnB w D (atB i) m).rho = xsAt (fnXs D (atB i) m) from rfl, e] at this
    exact Answers.of (b := fnB w D (atB i) m) (v := V.s (.bool u)) (fun r x hx => hx) this
  have pV : ∀ b, okJF (D.blk i) = b → ∀ K (ok : KnowOk K (fnB w D (atB i) m).rho (fnB w D (atB i) m).sig), @Sound ((fnB w D (atB i) m).withK K ok) Tryz.prog (rVJ b) := fun b e =>
    row_jmp h ⟨_, Tryz.func78, by kernel_rfl, by kernel_rfl⟩ jV_tests vmB (q := atB i) hi e _
  have pO : okJF (D.blk i) = true → ∀ K (ok : KnowOk K (fnB w D (atB i) m).rho (fnB w D (atB i) m).sig), @Sound ((fnB w D (atB i) m).withK K ok) Tryz.prog rOJ := fun e =>
    rowO_ok h ⟨_, Tryz.func57, by kernel_rfl, by kernel_rfl⟩ (occJump.jmp_VA h (atB i) rfl _ hi) (by rfl) fun w' hw => occJump.occJ_ans hw hi hB e
  have pF : okJF (D.blk i) = true → ∀ b, far.farF (occJump.occJ (D.blk i)) D.ls.length = b → ∀ K (ok : KnowOk K (fnB w D (atB i) m).rho (fnB w D (atB i) m).sig), @Sound ((fnB w D (atB i) m).withK K ok) Tryz.prog (rF b) := fun e b eb =>
    rowF_ok h (atB i) _ (fun j => by
      have := occJ_in (D.blk i) (by have := okJ_len (len_pre hj) e; omega) j
      omega) h1 h16 eb
  unfold okB
  cases hs : (D.blk i).st.all (okS D) with
  | false => exact go run_s (inn.2 hs) (fun K ok o ho => by cases ho) rfl
  | true =>
    rw [Bool.true_and]
    have hl := inn.1 hs
    cases hv : okJF (D.blk i) with
    | false => exact go run_v hl (fun K ok o ho => by obtain rfl := List.mem_singleton.1 ho; exact pV false hv K ok) rfl
    | true =>
      rw [Bool.true_and]
      cases hf : far.farF (occJump.occJ (D.blk i)) D.ls.length with
      | true => exact go run_f hl (fun K ok o ho => by
          simp only [List.mem_cons, List.not_mem_nil, or_false] at ho
          rcases ho with rfl | rfl | rfl
          · exact pV true hv K ok
          · exact pO hv K ok
          · exact pF hv true hf K ok) rfl
      | false => exact go run_t hl (fun K ok o ho => by
          simp only [List.mem_cons, List.not_mem_nil, or_false] at ho
          rcases ho with rfl | rfl | rfl
          · exact pV true hv K ok
          · exact pO hv K ok
          · exact pF hv false hf K ok) (by
          show V.s (.bool (tgE.num (xsAt (fnXs D (atB i) m)))) = _
          rw [tg_num h m]
          rfl)
end
end Go.Proofs.YthdcahkedlijpaaGreat.block
namespace Go.Proofs.YthdcahkedlijpaaGreat.madeR
open Go.RowKit Go.Proofs.YthdcahkedlijpaaGreat.Am
set_option maxRecDepth 100000
set_option linter.unusedVariables false
set_option linter.unusedSectionVars false
def guard (D : FnD) : Bool := decide (0 < D.ls.length) && (decide (0 < D.bs.length) && (decide (0 ≤ D.p) && (decide (D.p ≤ 8) && decide (D.p < D.ls.length))))
def madeRF (D : FnD) : Bool := !many.manyF D && (guard D && (D.ls.all okTy && (!head.ptr0 D && D.bs.all (block.okB D))))
section
variable {w : World} {v : Value} {D : FnD} (h : FnOk' w v D)
include h
theorem guard_num (q : At) : guardE.num (xsAt (fnXs D q [])) = guard D := by
  show ((!decide ((D.ls.length : Int) < 1)) && ((!decide ((D.bs.length : Int) < 1)) && ((!decide (D.p < 0)) && (decide (D.p < 9) && (decide (b2i (decide (D.p < D.ls.length)) = 1) && true))))) = _
  unfold guard
  rw [Bool.and_true, decide_eq_decide.2 (one_iff (D.p < D.ls.length)), ← decide_not, ← decide_not, ← decide_not]
  congr 1
  · exact decide_eq_decide.2 (by omega)
  congr 1
  · exact decide_eq_decide.2 (by omega)
  congr 1
  · exact decide_eq_decide.2 (by omega)
  congr 1
  exact decide_eq_decide.2 (by omega)
theorem typs (hl : D.ls.length ≤ 1000) {b : Bool} (hb : D.ls.all okTy = b) (K : Know) (ok : KnowOk K (fnB w D (atT 0) []).rho (fnB w D (atT 0) []).sig) :
    @LoopOk ((fnB w D (atT 0) []).withK K ok) Tryz.prog (rowT (if b then .exit 0 else .ret) (if b then sN else sR) K) codeT := by
  have us : ∀ u ∈ [isU (.xi .i64 58) (.int .i64 0)], UpdOk (fnB w D (atT 0) []) (fnB w D (atT 0) []) u := fun u hu => by
    obtain rfl := List.mem_singleton.1 hu
    exact isU_ok fun r v hv => hv
  have hin : ∀ k, k < D.ls.length → L1.Holds (xsAt (fnXs D (atT k) [])) (fun _ => []) := fun k hk => (twos.start0 h (atT k) (fits_T (by omega)) []).pin (i := 60) (c := 1) (show b2i (decide ((k : Int) < D.ls.length)) = 1 from (one_iff _).2 (by omega))
  have htb : ∀ k, k < D.ls.length → @TabsOk (fnB w D (atT k) []) (tabF.app tabT) := fun k hk => @tabs_app (fnB w D (atT k) []) tabF tabT (tabF_ok h _ _) (tabT_ok h (q := atT k) hk _)
  have hok : ∀ k b, okTy (D.typ k) = b → ∀ p ∈ [(head.okN, b)], p.1.num (xsAt (fnXs D (atT k) [])) = p.2 := fun k b e p hp => by
    obtain rfl := List.mem_singleton.1 hp
    exact (typ_num (atT k) [] (e := okTyE) rfl).trans e
  have hstep : ∀ k, k < D.ls.length → okTy (D.typ k) = true → TurnsS Tryz.prog (fnB w D (atT k) []) (fnB w D (atT (k + 1)) []) codeT hdT .normal hdT := fun k hk e => by
    refine turn_fn stepT (rig_plain (htb k hk)) (agree_fn _ _ _ _) (hin k hk) (fnFx_ok D _ _) (hok k true e) (fun u hu => ?_) rfl (no_loopN f codeT)
    obtain rfl := List.mem_singleton.1 hu
    exact isU_ok fun r v hv => hv
  have hend : TurnsS Tryz.prog (fnB w D (atT D.ls.length) []) (fnB w D (atT 0) []) codeT hdT (.exit 0) sN :=
    turn_fn stopT (rig_plain (tabF_ok h _ _)) (agree_fn _ _ _ _) (L := L3) ((twos.start0 h (atT D.ls.length) (fits_T (by omega)) []).pin (i := 60) (c := 0) (show b2i (decide ((D.ls.length : Int) < D.ls.length)) = 0 by rw [decide_eq_false (by omega)]; rfl)) (fnFx_ok D _ _) (fun p hp => by cases hp) (fun u hu => by cases hu) rfl (no_loopN f codeT)
  cases b with
  | true =>
    have hall := (all_at D.ls [] okTy).2 hb
    exact @roundsU_ok _ _ (fun k => fnB w D (atT k) []) codeT _ _ hdT _ _ (fun e => by cases e) D.ls.length (agree_fn _ _ [] []) us (fun k hk => hstep k hk (hall k hk)) hend 5 K ok
  | false =>
    rcases first_not (fun i => okTy (D.typ i)) D.ls.length with hall | ⟨N, hN, h0, hn⟩
    · rw [(all_at D.ls [] okTy).1 hall] at hb
      cases hb
    · exact @roundsU_ok _ _ (fun k => fnB w D (atT k) []) codeT _ _ hdT _ _ (fun e => by cases e) N (agree_fn _ _ [] []) us (fun k hk => hstep k (by omega) (h0 k hk)) (turn_fn badT (rig_plain (htb N hN)) (agree_fn _ _ _ _) (hin N hN) (fnFx_ok D _ _) (hok N false hn) (fun u hu => by cases hu) rfl (no_loopN f codeT)) 5 K ok
theorem blks (hB : D.bs.length ≤ 1000) (hS : ∀ b ∈ D.bs, b.st.length ≤ 1000) (h1 : 1 ≤ D.ls.length) (h16 : D.ls.length ≤ 16) {b : Bool} (hb : D.bs.all (block.okB D) = b) (K : Know) (ok : KnowOk K (fnB w D (atB 0) []).rho (fnB w D (atB 0) []).sig) :
    @LoopOk ((fnB w D (atB 0) []).withK K ok) Tryz.prog (rowB (if b then .exit 2 else .ret) (if b then sN else sR) K) codeB := by
  have us : ∀ u ∈ [isU (.xi .i64 4) (.int .i64 0)], UpdOk (fnB w D (atB 0) []) (fnB w D (atB 0) []) u := fun u hu => by
    obtain rfl := List.mem_singleton.1 hu
    exact isU_ok fun r v hv => hv
  have mem : ∀ i, i < D.bs.length → D.blk i ∈ D.bs := fun i hi => by
    unfold FnD.blk
    rw [List.getD_eq_getElem?_getD, List.getElem?_eq_getElem hi]
    exact List.getElem_mem hi
  have hin : ∀ k, k < D.bs.length → LB1.Holds (xsAt (fnXs D (atB k) [])) (fun _ => []) := fun k hk => (twos.start0 h (atB k) (fits_B (by omega)) []).pin (i := 6) (c := 1) (show b2i (decide ((k : Int) < D.bs.length)) = 1 from (one_iff _).2 (by omega))
  have rg : ∀ k, k < D.bs.length → ∀ b, block.okB D (D.blk k) = b → RigOk Tryz.prog (rigP (rB b) (tabF.app tabB) noLoops) (fnB w D (atB k) []) := fun k hk b e => by
    refine rig_ok (fun K ok => ?_) (@tabs_app (fnB w D (atB k) []) tabF tabB (tabF_ok h _ _) (tabB_ok h (q := atB k) hk _)) no_loops
    refine @sound_rowG ((fnB w D (atB k) []).withK K ok) _ block.f ⟨_, Tryz.func52, by kernel_rfl, by kernel_rfl⟩ _ _ (by rfl) [v, .agg (D.blk k).cells.toArray] (block.blk_VA h hk []) (.bool b) (fun r => vmB _ r b) fun w' hw => ?_
    rw [← e]
    exact block.block_ans (h.frz hw) hk hB (hS _ (mem k hk)) h1 h16
  have hstep : ∀ k, k < D.bs.length → block.okB D (D.blk k) = true → TurnsS Tryz.prog (fnB w D (atB k) []) (fnB w D (atB (k + 1)) []) codeB hdB .normal hdB := fun k hk e => by
    refine turn_fn stepB (rg k hk true e) (agree_fn _ _ _ _) (hin k hk) (fnFx_ok D _ _) (fun p hp => by cases hp) (fun u hu => ?_) rfl (no_loopN f codeB)
    obtain rfl := List.mem_singleton.1 hu
    exact isU_ok fun r v hv => hv
  have hend : TurnsS Tryz.prog (fnB w D (atB D.bs.length) []) (fnB w D (atB 0) []) codeB hdB (.exit 2) sN :=
    turn_fn stopB (rig_plain (tabF_ok h _ _)) (agree_fn _ _ _ _) (L := LB0) ((twos.start0 h (atB D.bs.length) (fits_B (by omega)) []).pin (i := 6) (c := 0) (show b2i (decide ((D.bs.length : Int) < D.bs.length)) = 0 by rw [decide_eq_false (by omega)]; rfl)) (fnFx_ok D _ _) (fun p hp => by cases hp) (fun u hu => by cases hu) rfl (no_loopN f codeB)
  cases b with
  | true =>
    have hall := (all_at D.bs b0 (block.okB D)).2 hb
    exact @roundsU_ok _ _ (fun k => fnB w D (atB k) []) codeB _ _ hdB _ _ (fun e => by cases e) D.bs.length (agree_fn _ _ [] []) us (fun k hk => hstep k hk (hall k hk)) hend 12 K ok
  | false =>
    rcases first_not (fun i => block.okB D (D.blk i)) D.bs.length with hall | ⟨N, hN, h0, hn⟩
    · rw [(all_at D.bs b0 (block.okB D)).1 hall] at hb
      cases hb
    · exact @roundsU_ok _ _ (fun k => fnB w D (atB k) []) codeB _ _ hdB _ _ (fun e => by cases e) N (agree_fn _ _ [] []) us (fun k hk => hstep k (by omega) (h0 k hk)) (turn_fn badB (rg N hN false hn) (agree_fn _ _ _ _) (hin N hN) (fnFx_ok D _ _) (fun p hp => by cases hp) (fun u hu => by cases hu) rfl (no_loopN f codeB)) 12 K ok
theorem madeR_ans : Answers f [v] w (.bool (madeRF D)) := by
  have hst := twos.start0 h (atB 0) (fits_B (by omega)) []
  have lib : ∀ b, many.manyF D = b → ∀ K (ok : KnowOk K (fnB w D (atB 0) []).rho (fnB w D (atB 0) []).sig), @Sound ((fnB w D (atB 0) []).withK K ok) Tryz.prog (libM b K) := fun b e =>
    row_fnD h ⟨_, Tryz.func35, by kernel_rfl, by kernel_rfl⟩ (fun b0 r => vmB b0 r b) (atB 0) [] fun w' hw => e ▸ many.many_ans hw
  have go : ∀ {m : Bool} {tb : Tabs} {rows : Know → List (FuncId × Loops)} {giv : List (E × Bool)} {g : List Bool → V} {hs : HT} {L : Lf} {u : Bool}, autoB (run m tb rows giv [] g) hs L = true → many.manyF D = m → @TabsOk (fnB w D (atB 0) []) tb → L.Holds (xsAt (fnXs D (atB 0) [])) (fun _ => []) →
      (∀ K (ok : KnowOk K (fnB w D (atB 0) []).rho (fnB w D (atB 0) []).sig), ∀ p ∈ rows K, ∃ F : Func, Tryz.prog.funcs[p.1]? = some F ∧ ∀ c, F.body = some c → Loops.ok (@LoopOk ((fnB w D (atB 0) []).withK K ok) Tryz.prog p.2) c) → (∀ p ∈ giv, p.1.num (xsAt (fnXs D (atB 0) [])) = p.2) → g [] = V.s (.bool u) → Answers f [v] w (.bool u) := fun {m tb rows giv g hs L u} hr hm ht hL hrows hg e =>
    fn_call h hr (rig_ok (lib m hm) ht (rows_ok hrows)) hL (fnFx_ok D _ _) hg (fun r x hx => by
      have hx : @VV (fnB w D (atB 0) []) r (g []) x := hx
      rw [e] at hx
      exact hx)
  unfold madeRF
  cases hm : many.manyF D with
  | true => exact go run_m hm (tabF_ok h _ _) hst (fun K ok p hp => by cases hp) (fun p hp => by cases hp) rfl
  | false =>
    obtain ⟨s1, s2, s3⟩ := check.small_of hm
    rw [Bool.not_false, Bool.true_and]
    cases hg : guard D with
    | false =>
      refine go run_g hm (tabF_ok h _ _) hst (fun K ok p hp => by cases hp) (fun p hp => ?_) rfl
      obtain rfl := List.mem_singleton.1 hp
      exact (guard_num h _).trans hg
    | true =>
      have hg' := hg
      unfold guard at hg'
      simp only [Bool.and_eq_true, decide_eq_true_eq] at hg'
      obtain ⟨g1, g2, g3, g4, g5⟩ := hg'
      have hLS : LS.Holds (xsAt (fnXs D (atB 0) [])) (fun _ => []) := ((((hst.lo (i := 2) (c := 1) (show (1 : Int) ≤ (D.ls.length : Int) by omega)).lo (i := 3) (c := 1) (show (1 : Int) ≤ (D.bs.length : Int) by omega)).lo (i := 0) (c := 0) g3).hi (i := 0) (c := 8) g4).pin (i := 76) (c := 1) ((one_iff _).2 g5)
      have rT : ∀ b, D.ls.all okTy = b → ∀ K (ok : KnowOk K (fnB w D (atB 0) []).rho (fnB w D (atB 0) []).sig), ∃ F : Func, Tryz.prog.funcs[f]? = some F ∧ ∀ c, F.body = some c → Loops.ok (@LoopOk ((fnB w D (atB 0) []).withK K ok) Tryz.prog (rowT (if b then .exit 0 else .ret) (if b then sN else sR) K)) c := fun b e K ok =>
        ⟨F, Tryz.func36, fun c hc => row_fn tagT (typs h (by omega) e K ok) hc⟩
      have rBk : ∀ b, D.bs.all (block.okB D) = b → ∀ K (ok : KnowOk K (fnB w D (atB 0) []).rho (fnB w D (atB 0) []).sig), ∃ F : Func, Tryz.prog.funcs[f]? = some F ∧ ∀ c, F.body = some c → Loops.ok (@LoopOk ((fnB w D (atB 0) []).withK K ok) Tryz.prog (rowB (if b then .exit 2 else .ret) (if b then sN else sR) K)) c := fun b e K ok =>
        ⟨F, Tryz.func36, fun c hc => row_fn tagB (blks h (by omega) (fun x hx => by have := s3 x hx; omega) (by omega) s1 e K ok) hc⟩
      rw [Bool.true_and]
      cases ht : D.ls.all okTy with
      | false => exact go run_t hm (tabF_ok h _ _) hLS (fun K ok p hp => by obtain rfl := List.mem_singleton.1 hp; exact rT false ht K ok) (fun p hp => by cases hp) rfl
      | true =>
        have t0 : @TabsOk (fnB w D (atB 0) []) (tabF.app tab0) := @tabs_app (fnB w D (atB 0) []) tabF tab0 (tabF_ok h _ _) (tab0_ok h (atB 0) rfl g1 [])
        have gv : ∀ b, (!head.ptr0 D) = !b → ∀ p ∈ [(head.okN, true), (isE 62 0, !b)], p.1.num (xsAt (fnXs D (atB 0) [])) = p.2 := fun b e p hp => by
          simp only [List.mem_cons, List.not_mem_nil, or_false] at hp
          rcases hp with rfl | rfl
          · exact (typ_num (atT 0) [] (e := okTyE) rfl).trans ((all_at D.ls [] okTy).2 ht 0 g1)
          · show (decide (cellI (D.typ 0) 1 = 0) && true) = !b
            rw [Bool.and_true, ← e]
            unfold head.ptr0
            rw [Bool.not_not]
        rw [Bool.true_and]
        cases hp : head.ptr0 D with
        | true => exact go run_p hm t0 hLS (fun K ok p hp => by obtain rfl := List.mem_singleton.1 hp; exact rT true ht K ok) (gv true (by rw [hp])) rfl
        | false =>
          rw [Bool.not_false, Bool.true_and]
          cases hb : D.bs.all (block.okB D) with
          | false => exact go run_b hm t0 hLS (fun K ok p hp => by
              simp only [List.mem_cons, List.not_mem_nil, or_false] at hp
              rcases hp with rfl | rfl
              · exact rT true ht K ok
              · exact rBk false hb K ok) (gv false (by rw [hp])) rfl
          | true => exact go run_ok hm t0 hLS (fun K ok p hp => by
              simp only [List.mem_cons, List.not_mem_nil, or_false] at hp
              rcases hp with rfl | rfl
              · exact rT true ht K ok
              · exact rBk true hb K ok) (gv false (by rw [hp])) rfl
end
end Go.Proofs.YthdcahkedlijpaaGreat.madeR
